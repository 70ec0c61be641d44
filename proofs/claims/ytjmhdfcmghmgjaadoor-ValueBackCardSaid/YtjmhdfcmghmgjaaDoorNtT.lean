/- Contracts of hornbeam/nat: long. -/
import Derived.Test.YtjmhdfcmghmgjaaDoorNtS
set_option linter.unusedVariables false
set_option linter.unusedSimpArgs false
set_option maxRecDepth 1000000
namespace Go.Dl
open Go.Proofs

theorem t_shiftn (a b : Nat) (hb : b ≤ 31) (ha : (limbs a).length ≤ 1000000) : PCall Tryd.prog 117 [encNat a, .int .i64 (-(b : Int))] (· = encNat (a / 2 ^ b)) := by
  by_cases h0 : b = 0
  · subst h0
    have := t_shift a 0 (by omega) ha
    simpa using this
  · refine pcall_vcz c_shift (by simp [c_shift]) fun x K hK => ?_
    simp [c_shift, encNat, show 0 < b by omega]
    refine oks_callz [] .wide [encNat a, .int .i64 (-(b : Int))] (t_down a b hb (by omega) ha) (by simp) (by simp; rfl) (by simp [encNat]) ?_
    rintro _ rfl
    refine oks_vc .wide ?_
    simp [encNat]
    exact hK _ _ rfl (by simp [encNat])

theorem limbs_len (x k : Nat) (h1 : 4294967296 ^ k ≤ x) (h2 : x < 4294967296 ^ (k + 1)) : (limbs x).length = k + 1 := by
  have h3 := val_lt (limbs_ok x)
  rw [val_limbs] at h3
  have h4 : k < (limbs x).length := (Nat.pow_lt_pow_iff_right (by decide : 1 < 4294967296)).1 (Nat.lt_of_le_of_lt h1 h3)
  rcases Nat.lt_or_ge (k + 1) (limbs x).length with h5 | h5
  · exfalso
    obtain ⟨j, hj⟩ : ∃ j, (limbs x).length = j + 1 := ⟨(limbs x).length - 1, by omega⟩
    have h6 := limbs_top x j hj
    have h7 := digit_eq x j
    have h8 : x / 4294967296 ^ j = 0 := Nat.div_eq_of_lt (Nat.lt_of_lt_of_le h2 (Nat.pow_le_pow_right (by decide) (by omega)))
    rw [h8, Nat.zero_mod] at h7
    rw [List.getElem?_eq_getElem (by omega)] at h6 h7
    exact h6 (by rw [← h7]; rfl)
  · omega
theorem limbs_ge (x k : Nat) (h : (limbs x).length = k + 1) : 4294967296 ^ k ≤ x := by
  refine Nat.le_of_not_lt fun h1 => ?_
  have h6 := limbs_top x k h
  have h7 := digit_eq x k
  rw [Nat.div_eq_of_lt h1, Nat.zero_mod] at h7
  rw [List.getElem?_eq_getElem (by omega)] at h6 h7
  exact h6 (by rw [← h7]; rfl)
theorem limbs_lt (x : Nat) : x < 4294967296 ^ (limbs x).length := by
  have := val_lt (limbs_ok x)
  rwa [val_limbs] at this

/-- the divisor, shifted -/
theorem norm_div (b k d : Nat) (hl : (limbs b).length = k + 1) (hd : (limbs b)[k]? = some d) : lz d ≤ 31 ∧ (limbs (b * 2 ^ lz d)).length = k + 1 ∧ 4294967296 ^ k * 2 ^ lz d ≤ b * 2 ^ lz d ∧ ∃ t, (limbs (b * 2 ^ lz d))[k]? = some t ∧ 2147483648 ≤ t := by
  have hd0 : d ≠ 0 := fun e => limbs_top b k hl (by rw [hd, e])
  have hdW := limbs_ok b d (List.mem_of_getElem? hd)
  obtain ⟨h1, h2, h3⟩ := lz_spec d hd0 hdW
  have hdiv : b / 4294967296 ^ k = d := by
    have h4 := digit_eq b k
    rw [hd] at h4
    have h5 := limbs_lt b
    rw [hl, Nat.pow_succ] at h5
    have h6 : b / 4294967296 ^ k < 4294967296 := (Nat.div_lt_iff_lt_mul (Nat.pow_pos (by decide))).2 (by rw [Nat.mul_comm]; exact h5)
    rw [Nat.mod_eq_of_lt h6] at h4
    exact h4.symm
  have hP : 0 < 4294967296 ^ k := Nat.pow_pos (by decide)
  have hge := limbs_ge b k hl
  have hlo : 4294967296 ^ k * d ≤ b := by rw [← hdiv]; exact Nat.mul_div_le _ _
  have hhi : b < 4294967296 ^ k * (d + 1) := by
    have := Nat.lt_mul_div_succ b hP
    rwa [hdiv] at this
  have hx1 : 4294967296 ^ k * 2147483648 ≤ b * 2 ^ lz d := by
    have e1 : 4294967296 ^ k * (d * 2 ^ lz d) ≤ b * 2 ^ lz d := by rw [← Nat.mul_assoc]; exact Nat.mul_le_mul_right _ hlo
    exact Nat.le_trans (Nat.mul_le_mul_left _ h2) e1
  have hx2 : b * 2 ^ lz d < 4294967296 ^ (k + 1) := by
    have e1 : b * 2 ^ lz d < 4294967296 ^ k * (d + 1) * 2 ^ lz d := Nat.mul_lt_mul_of_pos_right hhi (Nat.pow_pos (by decide))
    have e2 : (d + 1) * 2 ^ lz d ≤ 4294967296 := by
      have : (4294967296 : Nat) = 2 ^ (32 - lz d) * 2 ^ lz d := by rw [← Nat.pow_add, show 32 - lz d + lz d = 32 by omega]
      rw [this] at h3 ⊢
      exact Nat.mul_le_mul_right _ (Nat.lt_of_mul_lt_mul_right h3)
    rw [Nat.mul_assoc] at e1
    rw [Nat.pow_succ]
    exact Nat.lt_of_lt_of_le e1 (Nat.mul_le_mul_left _ e2)
  have hlen := limbs_len (b * 2 ^ lz d) k (Nat.le_trans (Nat.le_mul_of_pos_right _ (by decide)) hx1) hx2
  refine ⟨h1, hlen, Nat.mul_le_mul_right _ hge, (limbs (b * 2 ^ lz d))[k], List.getElem?_eq_getElem _, ?_⟩
  have h4 := digit_eq (b * 2 ^ lz d) k
  rw [List.getElem?_eq_getElem (by omega)] at h4
  simp only [Option.getD_some] at h4
  rw [h4]
  have h6 : b * 2 ^ lz d / 4294967296 ^ k < 4294967296 := (Nat.div_lt_iff_lt_mul hP).2 (by rw [Nat.mul_comm 4294967296 (4294967296 ^ k), ← Nat.pow_succ]; exact hx2)
  rw [Nat.mod_eq_of_lt h6]
  exact (Nat.le_div_iff_mul_le hP).2 (by rw [Nat.mul_comm]; exact hx1)

/-- one digit of a long division: U is what is left -/
structure LongAt (X V : Nat) (j : Nat) (Q U : List Nat) : Prop where
  okQ : OkL Q
  okU : OkL U
  eq : X = val (Q.drop j) * V * 4294967296 ^ j + val U
  low : val (U.drop j) < V

theorem val_split (l : List Nat) (j : Nat) (h : j ≤ l.length) : val l = val (l.take j) + 4294967296 ^ j * val (l.drop j) := by
  conv => lhs; rw [← List.take_append_drop j l, val_append, List.length_take, Nat.min_eq_left h]

theorem long_mid {X V m j : Nat} {Q U : List Nat} (h : LongAt X V (j + 1) Q U) (hV : V < 4294967296 ^ m) (hlen : j + m + 1 ≤ U.length) :
    val ((U.drop j).take (m + 1)) < 4294967296 * V ∧ val (U.drop (j + (m + 1))) = 0 := by
  have hj : j < U.length := by omega
  have h1 : val (U.drop j) < 4294967296 * V := by
    rw [List.drop_eq_getElem_cons hj, val]
    have := h.okU _ (List.getElem_mem hj)
    have := h.low
    omega
  have h2 := val_split (U.drop j) (m + 1) (by simp; omega)
  rw [List.drop_drop] at h2
  have hz : val (U.drop (j + (m + 1))) = 0 := by
    rcases Nat.eq_zero_or_pos (val (U.drop (j + (m + 1)))) with h3 | h3
    · exact h3
    · exfalso
      have h4 : 4294967296 * V ≤ 4294967296 ^ (m + 1) := by rw [Nat.pow_succ, Nat.mul_comm]; exact Nat.mul_le_mul_right _ (Nat.le_of_lt hV)
      have h5 := Nat.le_mul_of_pos_right (4294967296 ^ (m + 1)) h3
      omega
  refine ⟨?_, hz⟩
  rw [hz, Nat.mul_zero, Nat.add_zero] at h2
  omega

theorem long_alg {W : Nat} (q V P t M : Nat) : q * V * (P * W) + (t + P * M) = (M / V + W * q) * V * P + (t + P * (M % V)) := by
  have h := congrArg (P * ·) (Nat.div_add_mod M V)
  simp only [Nat.mul_add] at h
  have e1 : (M / V + W * q) * V * P = P * (V * (M / V)) + q * V * (P * W) := by
    rw [Nat.add_mul, Nat.add_mul, Nat.mul_comm (M / V), Nat.mul_comm (V * (M / V))]
    congr 1
    rw [Nat.mul_comm W q, Nat.mul_comm P W, ← Nat.mul_assoc, Nat.mul_right_comm q W V]
  rw [e1]
  omega
theorem long_step {X V m j : Nat} {Q U M : List Nat} (h : LongAt X V (j + 1) Q U) (hV : V < 4294967296 ^ m) (hV0 : 0 < V) (hlen : j + m + 1 ≤ U.length) (hj : j < Q.length) (hM : M.length = m + 1) (okM : OkL M)
    (hval : val M = val ((U.drop j).take (m + 1)) % V) (hq : val ((U.drop j).take (m + 1)) / V < 4294967296) :
    LongAt X V j (Q.set j (val ((U.drop j).take (m + 1)) / V)) (U.take j ++ (M ++ U.drop (j + (m + 1)))) := by
  obtain ⟨h1, hz⟩ := long_mid h hV hlen
  have hjU : j ≤ U.length := by omega
  have e1 := val_split U j hjU
  have e2 := val_split (U.drop j) (m + 1) (by simp; omega)
  rw [List.drop_drop, hz, Nat.mul_zero, Nat.add_zero] at e2
  rw [e2] at e1
  have e3 : val (M ++ U.drop (j + (m + 1))) = val M := by rw [val_append, hz, Nat.mul_zero, Nat.add_zero]
  have hdrop : (U.take j ++ (M ++ U.drop (j + (m + 1)))).drop j = M ++ U.drop (j + (m + 1)) := by
    rw [List.drop_append_of_le_length (by simp; omega)]
    simp [List.drop_take]
  refine ⟨set_ok h.okQ hq, ?_, ?_, ?_⟩
  · intro d hd
    rcases List.mem_append.1 hd with hd | hd
    · exact h.okU d (List.mem_of_mem_take hd)
    · rcases List.mem_append.1 hd with hd | hd
      · exact okM d hd
      · exact h.okU d (List.mem_of_mem_drop hd)
  · have hQ : (Q.set j (val ((U.drop j).take (m + 1)) / V)).drop j = (val ((U.drop j).take (m + 1)) / V) :: Q.drop (j + 1) := by
      rw [List.drop_eq_getElem_cons (by simpa using hj)]
      simp [List.drop_set]
    rw [hQ, val, val_append, e3, List.length_take, Nat.min_eq_left hjU, hval]
    have h2 := h.eq
    rw [e1, Nat.pow_succ] at h2
    rw [h2]
    exact long_alg _ _ _ _ _
  · rw [hdrop, e3, hval]
    exact Nat.mod_lt _ hV0

def lgk (f : Bool) : Nat := if f then 37 else 28
def lgI (A : List Nat) (vL : List Nat) (sh : Nat) (y : Bool × List Nat) : St := ⟨71, [(8, .own (lgk y.1) 1 0 y.2.length y.2.length), (7, .p (.sl none 1 (enc vL) [])), (6, .p (.int .i64 (sh : Int))), (5, .ptr 5 1 0 0), (4, .ptr 4 1 0 0), (2, .ptr 2 1 0 0)],
  [(lgk y.1, ⟨false, 1, .p (enc y.2)⟩), (5, ⟨false, 1, .p [[.sl (some true) 0 [] []]]⟩), (4, ⟨false, 1, .p [[.sl (some true) 0 [] []]]⟩), (2, ⟨false, 1, .p [[.sl none 1 (enc A) []]]⟩)]⟩

theorem limbs_len_le {U : List Nat} (h : OkL U) : (limbs (val U)).length ≤ U.length := by
  rcases Nat.eq_zero_or_pos (limbs (val U)).length with h0 | h0
  · omega
  · obtain ⟨k, hk⟩ : ∃ k, (limbs (val U)).length = k + 1 := ⟨(limbs (val U)).length - 1, by omega⟩
    have h1 := limbs_ge _ k hk
    have h2 := val_lt h
    have := (Nat.pow_lt_pow_iff_right (by decide : 1 < 4294967296)).1 (Nat.lt_of_le_of_lt h1 h2)
    omega
theorem long_end {a b p : Nat} {Q U : List Nat} (hp : 0 < p) (hb : 0 < b) (h : LongAt (a * p) (b * p) 0 Q U) : val Q = a / b ∧ val U / p = a % b := by
  have h1 := h.eq
  have h2 := h.low
  rw [List.drop_zero] at h1 h2
  rw [Nat.pow_zero, Nat.mul_one] at h1
  have hV : 0 < b * p := Nat.mul_pos hb hp
  have e1 : val Q = a * p / (b * p) := by
    rw [h1, Nat.add_comm, Nat.add_mul_div_right _ _ hV, Nat.div_eq_of_lt h2, Nat.zero_add]
  have e2 : val U = a * p % (b * p) := by
    rw [h1, Nat.add_comm, Nat.add_mul_mod_self_right, Nat.mod_eq_of_lt h2]
  rw [Nat.mul_div_mul_right _ _ hp] at e1
  rw [Nat.mul_mod_mul_right] at e2
  exact ⟨e1, by rw [e2, Nat.mul_div_cancel _ hp]⟩

def lgJ (vL : List Nat) (sh k N L : Nat) (y : Nat × List Nat × List Nat) : St := ⟨71, [(10, .p (.int .i64 ((y.1 : Int) - 1))), (9, .own 43 1 0 N N), (8, .own k 1 0 (L + 2) (L + 2)), (7, .p (.sl none 1 (enc vL) [])), (6, .p (.int .i64 (sh : Int))), (5, .ptr 5 1 0 0), (4, .ptr 4 1 0 0)],
  [(43, ⟨false, 1, .p (enc y.2.1)⟩), (k, ⟨false, 1, .p (enc y.2.2)⟩), (5, ⟨false, 1, .p [[.sl (some true) 0 [] []]]⟩), (4, ⟨false, 1, .p [[.sl (some true) 0 [] []]]⟩)]⟩

set_option maxHeartbeats 2000000 in
theorem t_long (a b n : Nat) (hb : (limbs b).length = n + 2) (hab : b ≤ a) (ha : (limbs a).length ≤ 800000) : PCall Tryd.prog 106 [encNat a, encNat b] (· = .tup [encNat (a / b), encNat (a % b)]) := by
  obtain ⟨A, hA⟩ : ∃ A, A = limbs a := ⟨_, rfl⟩
  obtain ⟨B, hB⟩ : ∃ B, B = limbs b := ⟨_, rfl⟩
  obtain ⟨d, hd⟩ : ∃ d, (limbs b)[n + 1]? = some d := ⟨_, List.getElem?_eq_getElem (by omega)⟩
  obtain ⟨s1, s2, s3, t, st, s4⟩ := norm_div b (n + 1) d hb hd
  have hdW := limbs_ok b d (List.mem_of_getElem? hd)
  have hlz := t_lz d hdW
  obtain ⟨sh, hsh⟩ : ∃ sh, sh = lz d := ⟨_, rfl⟩
  rw [← hsh] at s1 s2 s3 st hlz
  obtain ⟨p, hp⟩ : ∃ p, p = 2 ^ sh := ⟨_, rfl⟩
  have hp0 : 0 < p := hp ▸ Nat.pow_pos (by decide)
  have hpW : p < 4294967296 := by
    have : 2 ^ sh ≤ 2 ^ 31 := Nat.pow_le_pow_right (by decide) s1
    omega
  have la1 := limbs_lt a
  have hb0 : 0 < b := Nat.lt_of_lt_of_le (Nat.pow_pos (by decide)) (limbs_ge b (n + 1) hb)
  rw [← hp] at s2 s3 st
  obtain ⟨L, hL⟩ : ∃ L, (limbs a).length = L + 1 := by
    have : (limbs a).length ≠ 0 := fun e => by have := limbs_len_zero.1 e; omega
    exact ⟨(limbs a).length - 1, by omega⟩
  have hnL : n + 1 ≤ L := by
    have h1 := limbs_ge b (n + 1) hb
    rw [hL] at la1
    have h2 : 4294967296 ^ (n + 1) < 4294967296 ^ (L + 1) := by omega
    have := (Nat.pow_lt_pow_iff_right (by decide : 1 < 4294967296)).1 h2
    omega
  have hXge : 4294967296 ^ L ≤ a * p := Nat.le_trans (limbs_ge a L hL) (Nat.le_mul_of_pos_right _ hp0)
  have hXlt : a * p < 4294967296 ^ (L + 1) * p := by rw [← hL]; exact Nat.mul_lt_mul_of_pos_right la1 hp0
  have hXlt2 : a * p < 4294967296 ^ (L + 2) := Nat.lt_trans hXlt (by rw [Nat.pow_succ 4294967296 (L + 1)]; exact Nat.mul_lt_mul_of_pos_left hpW (Nat.pow_pos (by decide)))
  obtain ⟨uL, huL⟩ : ∃ uL, uL = limbs (a * p) := ⟨_, rfl⟩
  obtain ⟨vL, hvL⟩ : ∃ vL, vL = limbs (b * p) := ⟨_, rfl⟩
  have u1 : uL.length = L + 1 ∨ uL.length = L + 2 := by
    rw [huL]
    rcases Nat.lt_or_ge (a * p) (4294967296 ^ (L + 1)) with h | h
    · exact .inl (limbs_len _ L hXge h)
    · exact .inr (limbs_len _ (L + 1) h hXlt2)
  have okv : OkL vL := hvL ▸ limbs_ok _
  have vv : val vL = b * p := by rw [hvL, val_limbs]
  rw [← hvL] at s2 st
  refine pcall_vcz c_long (by simp [c_long]) fun x K hK => ?_
  have hw1 : IntKind.i64.wrap ((n : Int) + 2 - 1) = (n : Int) + 1 := by rw [wrap_i64 (by omega)]; omega
  have hBd : B[n + 1]? = some d := by rw [hB]; exact hd
  obtain ⟨_, hBe⟩ := List.getElem?_eq_some_iff.1 hBd
  have hBl : B.length = n + 2 := by rw [hB]; exact hb
  have hAl : A.length = L + 1 := by rw [hA]; exact hL
  simp [c_long, encNat, ← hA, ← hB, hBl, hw1, show (0 : Int) ≤ (n : Int) + 1 by omega, show (n : Int) + 1 < (n : Int) + 2 by omega, show ((n : Int) + 1).toNat = n + 1 by omega, hBe]
  refine oks_callz [] .wide [.int .u32 (U d)] hlz (by simp) (by simp; rfl) (by simp) ?_
  rintro _ rfl
  refine oks_vc .wide ?_
  simp
  have hs1 := t_shift b sh s1 (by omega)
  have hs2 := t_shift a sh s1 (by omega)
  rw [← hp] at hs1 hs2
  refine oks_callz [] .wide [encNat b, .int .i64 (sh : Int)] hs1 (by simp) (by simp; rfl) (by simp [encNat, ← hB]) ?_
  rintro _ rfl
  refine oks_vc .wide ?_
  simp [encNat, ← hvL]
  refine oks_callz [] .wide [encNat a, .int .i64 (sh : Int)] hs2 (by simp) (by simp; rfl) (by simp [encNat, ← hA]) ?_
  rintro _ rfl
  refine oks_vc .wide ?_
  simp [encNat, ← huL]
  refine oks_calln .wide (ps := [.sl none 1 (enc uL) []]) (by simp) (by simp) (t_clone32 uL (by rintro rfl; simp at u1) (by omega)) ?_
  rintro _ H ⟨k, rfl, hH⟩
  refine ⟨k, 1, 0, _, _, _, rfl, hH, oks_vc .wide ?_⟩
  simp
  refine vc_loop .wide (lgI A vL sh) (fun y => OkL y.2 ∧ val y.2 = a * p ∧ (y.2.length = L + 1 ∨ y.2.length = L + 2)) (fun y => L + 2 - y.2.length) ⟨false, uL⟩ ⟨huL ▸ limbs_ok _, by rw [huL]; exact val_limbs _, u1⟩ (sub_iff (by simp [lgI, lgk])) ?_
  rintro ⟨f, u⟩ ⟨h1, h2, h3⟩ Q k1 k2
  simp only at h1 h2 h3
  by_cases hl : u.length = L + 1
  · have b1 : (L + 1 + 1) * 4 ≤ 140737488355328 := by omega
    have b2 : L + 1 + 1 ≤ 9223372036854775807 := by omega
    cases f <;>
    · simp [lgI, lgk, hl, hAl, maxLen_eq, b1, b2]
      refine k1 _ (true, u ++ [0]) ⟨?_, ?_, ?_⟩ ?_ ?_
      · intro d hd
        rcases List.mem_append.1 hd with hd | hd
        · exact h1 d hd
        · simp at hd; omega
      · simp only; rw [val_append, h2]; simp [val]
      · right; simp [hl]
      · simp [hl]
      · exact sub_iff (by simp [lgI, lgk, hl, enc]; exact List.take_of_length_le (by simp [hl]))
  · have hl : u.length = L + 2 := by omega
    obtain ⟨N, hN⟩ : ∃ N, L = N + n := ⟨L - n, by omega⟩
    have s2' : vL.length = n + 2 := by omega
    have hwN : IntKind.i64.wrap ((L : Int) + 2 - ((n : Int) + 2)) = (N : Int) := by rw [wrap_i64 (by omega)]; omega
    have hwN1 : IntKind.i64.wrap ((N : Int) - 1) = (N : Int) - 1 := wrap_i64 (by omega)
    have b1 : N * 4 ≤ 281474976710656 := by omega
    have b2 : N ≤ 9223372036854775807 := by omega
    have hrep : List.replicate N [PV.int .u32 0] = enc (List.replicate N 0) := by simp [enc]
    have hV0 : 0 < b * p := Nat.mul_pos hb0 hp0
    have hVW : b * p < 4294967296 ^ (n + 2) := by have := val_lt okv; rwa [vv, s2'] at this
    have init : LongAt (a * p) (b * p) N (List.replicate N 0) u := by
      refine ⟨by simp [OkL], h1, ?_, ?_⟩
      · rw [List.drop_of_length_le (by simp), h2]; simp [val]
      · have e1 := val_split u N (by omega)
        rw [h2] at e1
        have e2 : 4294967296 ^ N * val (u.drop N) < 4294967296 ^ N * (4294967296 ^ (n + 1) * p) := by
          have : 4294967296 ^ (L + 1) * p = 4294967296 ^ N * (4294967296 ^ (n + 1) * p) := by rw [← Nat.mul_assoc, ← Nat.pow_add, hN, Nat.add_assoc]
          omega
        exact Nat.lt_of_lt_of_le (Nat.lt_of_mul_lt_mul_left e2) s3
    cases f
    · simp [lgI, lgk, hl, hAl, show ¬ ((L : Int) + 2 ≤ (L : Int) + 1) by omega]
      refine k2 _ _ (by simp) ?_
      simp [s2', hwN, hwN1, b1, b2, hrep]
      refine vc_loop .wide (lgJ vL sh 28 N L) (fun y => y.1 ≤ N ∧ y.2.1.length = N ∧ y.2.2.length = L + 2 ∧ LongAt (a * p) (b * p) y.1 y.2.1 y.2.2) (fun y => y.1) ⟨N, List.replicate N 0, u⟩ ⟨Nat.le_refl _, by simp, hl, init⟩ (sub_iff (by simp [lgJ])) ?_
      rintro ⟨jj, Qq, Uu⟩ ⟨j1, j2, j3, j4⟩ Q' k1' k2'
      simp only at j1 j2 j3 j4
      by_cases hj0 : jj = 0
      · subst hj0
        obtain ⟨f1, f2⟩ := long_end hp0 hb0 j4
        have hUlen := limbs_len_le j4.okU
        have hsn := t_shiftn (val Uu) sh s1 (by omega)
        rw [← hp, f2] at hsn
        have hcutQ : (enc Qq).take N = enc Qq := List.take_of_length_le (by simp [j2])
        have hcutU : (enc Uu).take (L + 2) = enc Uu := List.take_of_length_le (by simp [j3])
        have hneg : IntKind.i64.wrap (-(sh : Int)) = -(sh : Int) := wrap_i64 (by omega)
        simp [lgJ]
        refine k2' _ _ (by simp) ?_
        simp
        refine oks_callz [43] .wide [.sl none 1 (enc Qq) []] (t_trim none Qq [] j4.okQ) (by simp) (by simp [j2]; rfl) (by simp [hcutQ]) ?_
        rintro _ rfl
        refine oks_vc .wide ?_
        rw [f1]
        simp [encNat]
        refine oks_callz [28] .wide [.sl none 1 (enc Uu) []] (t_trim none Uu [] j4.okU) (by simp) (by simp [j3]; rfl) (by simp [hcutU]) ?_
        rintro _ rfl
        refine oks_vc .wide ?_
        simp [encNat, hneg]
        refine oks_callz [] .wide [encNat (val Uu), .int .i64 (-(sh : Int))] hsn (by simp) (by simp; rfl) (by simp [encNat]) ?_
        rintro _ rfl
        refine oks_vc .wide ?_
        simp [encNat]
        exact hK _ _ rfl (by simp [encNat])
      · obtain ⟨j, rfl⟩ : ∃ j, jj = j + 1 := ⟨jj - 1, by omega⟩
        have hjN : j < N := by omega
        have hlen : j + (n + 2) + 1 ≤ Uu.length := by omega
        obtain ⟨m1, m2⟩ := long_mid j4 hVW hlen
        have hM : ((Uu.drop j).take (n + 2 + 1)).length = n + 3 := by simp; omega
        have hpre : (Uu.take j).length = j := by simp; omega
        have hst := t_step (Uu.take j) ((Uu.drop j).take (n + 2 + 1)) (Uu.drop (j + (n + 2 + 1))) vL n (L + 2 - j) t (by omega) (by omega) (by omega) s2' hM (okL_take (fun d hd => j4.okU d (List.mem_of_mem_drop hd)) _) okv st s4 (by rw [vv]; exact m1)
        have hwhole : Uu.take j ++ ((Uu.drop j).take (n + 2 + 1) ++ Uu.drop (j + (n + 2 + 1))) = Uu := by
          rw [← List.drop_drop, List.take_append_drop, List.take_append_drop]
        rw [hwhole, hpre, vv] at hst
        obtain ⟨e, he⟩ : ∃ e, e = j + n + 3 := ⟨_, rfl⟩
        have hwe : IntKind.i64.wrap (IntKind.i64.wrap ((j : Int) + ((n : Int) + 2)) + 1) = (e : Int) := by rw [wrap_i64 (n := (j : Int) + ((n : Int) + 2)) (by omega), wrap_i64 (by omega)]; omega
        have hwj : IntKind.i64.wrap ((j : Int) - 1) = (j : Int) - 1 := wrap_i64 (by omega)
        have hee : e - j = n + 3 := by omega
        simp [lgJ, s2', hwe, show e ≤ L + 2 by omega, show j ≤ e by omega, hee]
        refine oks_callb .wide 28 (by simp) (by simp; exact ⟨rfl, rfl⟩) (by simpa using hst) ?_
        rintro _ H ⟨M, g1, g2, g3, rfl, hH⟩
        refine ⟨_, hH, oks_vc .wide ?_⟩
        have hq : val ((Uu.drop j).take (n + 2 + 1)) / (b * p) < 4294967296 := (Nat.div_lt_iff_lt_mul hV0).2 m1
        have hnext := long_step j4 hVW hV0 hlen (by omega) g1 g2 g3 hq
        have hQj : Qq[j]? = some (Qq[j]'(by omega)) := List.getElem?_eq_getElem _
        simp [hjN, hQj, hwj]
        refine k1' _ (j, _, _) ⟨by omega, ?_, ?_, hnext⟩ (by simp) (sub_iff (by simp [lgJ]))
        · simp [j2]
        · simp [g1]; omega
    · simp [lgI, lgk, hl, hAl, show ¬ ((L : Int) + 2 ≤ (L : Int) + 1) by omega]
      refine k2 _ _ (by simp) ?_
      simp [s2', hwN, hwN1, b1, b2, hrep]
      refine vc_loop .wide (lgJ vL sh 37 N L) (fun y => y.1 ≤ N ∧ y.2.1.length = N ∧ y.2.2.length = L + 2 ∧ LongAt (a * p) (b * p) y.1 y.2.1 y.2.2) (fun y => y.1) ⟨N, List.replicate N 0, u⟩ ⟨Nat.le_refl _, by simp, hl, init⟩ (sub_iff (by simp [lgJ])) ?_
      rintro ⟨jj, Qq, Uu⟩ ⟨j1, j2, j3, j4⟩ Q' k1' k2'
      simp only at j1 j2 j3 j4
      by_cases hj0 : jj = 0
      · subst hj0
        obtain ⟨f1, f2⟩ := long_end hp0 hb0 j4
        have hUlen := limbs_len_le j4.okU
        have hsn := t_shiftn (val Uu) sh s1 (by omega)
        rw [← hp, f2] at hsn
        have hcutQ : (enc Qq).take N = enc Qq := List.take_of_length_le (by simp [j2])
        have hcutU : (enc Uu).take (L + 2) = enc Uu := List.take_of_length_le (by simp [j3])
        have hneg : IntKind.i64.wrap (-(sh : Int)) = -(sh : Int) := wrap_i64 (by omega)
        simp [lgJ]
        refine k2' _ _ (by simp) ?_
        simp
        refine oks_callz [43] .wide [.sl none 1 (enc Qq) []] (t_trim none Qq [] j4.okQ) (by simp) (by simp [j2]; rfl) (by simp [hcutQ]) ?_
        rintro _ rfl
        refine oks_vc .wide ?_
        rw [f1]
        simp [encNat]
        refine oks_callz [37] .wide [.sl none 1 (enc Uu) []] (t_trim none Uu [] j4.okU) (by simp) (by simp [j3]; rfl) (by simp [hcutU]) ?_
        rintro _ rfl
        refine oks_vc .wide ?_
        simp [encNat, hneg]
        refine oks_callz [] .wide [encNat (val Uu), .int .i64 (-(sh : Int))] hsn (by simp) (by simp; rfl) (by simp [encNat]) ?_
        rintro _ rfl
        refine oks_vc .wide ?_
        simp [encNat]
        exact hK _ _ rfl (by simp [encNat])
      · obtain ⟨j, rfl⟩ : ∃ j, jj = j + 1 := ⟨jj - 1, by omega⟩
        have hjN : j < N := by omega
        have hlen : j + (n + 2) + 1 ≤ Uu.length := by omega
        obtain ⟨m1, m2⟩ := long_mid j4 hVW hlen
        have hM : ((Uu.drop j).take (n + 2 + 1)).length = n + 3 := by simp; omega
        have hpre : (Uu.take j).length = j := by simp; omega
        have hst := t_step (Uu.take j) ((Uu.drop j).take (n + 2 + 1)) (Uu.drop (j + (n + 2 + 1))) vL n (L + 2 - j) t (by omega) (by omega) (by omega) s2' hM (okL_take (fun d hd => j4.okU d (List.mem_of_mem_drop hd)) _) okv st s4 (by rw [vv]; exact m1)
        have hwhole : Uu.take j ++ ((Uu.drop j).take (n + 2 + 1) ++ Uu.drop (j + (n + 2 + 1))) = Uu := by
          rw [← List.drop_drop, List.take_append_drop, List.take_append_drop]
        rw [hwhole, hpre, vv] at hst
        obtain ⟨e, he⟩ : ∃ e, e = j + n + 3 := ⟨_, rfl⟩
        have hwe : IntKind.i64.wrap (IntKind.i64.wrap ((j : Int) + ((n : Int) + 2)) + 1) = (e : Int) := by rw [wrap_i64 (n := (j : Int) + ((n : Int) + 2)) (by omega), wrap_i64 (by omega)]; omega
        have hwj : IntKind.i64.wrap ((j : Int) - 1) = (j : Int) - 1 := wrap_i64 (by omega)
        have hee : e - j = n + 3 := by omega
        simp [lgJ, s2', hwe, show e ≤ L + 2 by omega, show j ≤ e by omega, hee]
        refine oks_callb .wide 37 (by simp) (by simp; exact ⟨rfl, rfl⟩) (by simpa using hst) ?_
        rintro _ H ⟨M, g1, g2, g3, rfl, hH⟩
        refine ⟨_, hH, oks_vc .wide ?_⟩
        have hq : val ((Uu.drop j).take (n + 2 + 1)) / (b * p) < 4294967296 := (Nat.div_lt_iff_lt_mul hV0).2 m1
        have hnext := long_step j4 hVW hV0 hlen (by omega) g1 g2 g3 hq
        have hQj : Qq[j]? = some (Qq[j]'(by omega)) := List.getElem?_eq_getElem _
        simp [hjN, hQj, hwj]
        refine k1' _ (j, _, _) ⟨by omega, ?_, ?_, hnext⟩ (by simp) (sub_iff (by simp [lgJ]))
        · simp [j2]
        · simp [g1]; omega
end Go.Dl
