/- Contracts of hornbeam/nat: guess. -/
import Derived.Test.YtjmhdfcmghmgjaaDoorNtP
set_option linter.unusedVariables false
set_option linter.unusedSimpArgs false
set_option maxRecDepth 1000000
namespace Go.Dl
open Go.Proofs

theorem ev_dec64 (a : Nat) (h : 0 < a) (h' : a < 18446744073709551616) : evBin .sub (.int .u64 (U a)) (.int .u64 1) = some (.int .u64 (U (a - 1))) := by
  simp only [evBin, if_true, IntKind.wrap_u64]; unfold U; congr 2; omega
theorem ev_dec64' (a : Nat) : evBin .sub (.int .u64 (U a)) (.int .u64 1) = some (.int .u64 (U ((a + 18446744073709551615) % 18446744073709551616))) := by
  simp only [evBin, if_true, IntKind.wrap_u64]; unfold U; congr 2; omega
/-- what guess tells of the three highest limbs u3 u2 u1 and the two t s -/
def Guess (u3 u2 u1 t s q : Nat) : Prop := q < 4294967296 ∧ q * (t * 4294967296 + s) ≤ (u3 * 4294967296 + u2) * 4294967296 + u1 ∧
  ∀ q', q < q' → q' < 4294967296 → (u3 * 4294967296 + u2) * 4294967296 + u1 < q' * (t * 4294967296 + s)

theorem gen_next {W two t s u1 q rest : Nat} (h : q * t + rest = two) (hc : rest * W + u1 < q * s) : two * W + u1 < q * (t * W + s) := by
  rw [← h, Nat.mul_add, ← Nat.mul_assoc, Nat.add_mul]
  omega
theorem gen_stop {W two t s u1 q rest : Nat} (h : q * t + rest = two) (hc : q * s ≤ rest * W + u1) : q * (t * W + s) ≤ two * W + u1 := by
  rw [← h, Nat.mul_add, ← Nat.mul_assoc, Nat.add_mul]
  omega
theorem gen_init {W two t s u1 q' : Nat} (h1 : u1 < W) (h2 : two < q' * t) : two * W + u1 < q' * (t * W + s) := by
  have h3 := Nat.mul_le_mul_right W (show two + 1 ≤ q' * t from h2)
  rw [Nat.mul_add, ← Nat.mul_assoc]
  rw [Nat.add_mul] at h3
  omega
theorem guess_init {two t s u1 : Nat} (ht : 2147483648 ≤ t) (hs : s < 4294967296) (h1 : u1 < 4294967296) (h : two ≤ t * 4294967296 + s) :
    two / t ≤ 4294967297 ∧ ∀ q', two / t < q' → two * 4294967296 + u1 < q' * (t * 4294967296 + s) := by
  constructor
  · refine Nat.le_of_lt_succ ((Nat.div_lt_iff_lt_mul (by omega)).2 ?_)
    omega
  · intro q' hq
    rw [Nat.div_lt_iff_lt_mul (by omega)] at hq
    exact gen_init h1 hq
theorem guess_next {two t s u1 q rest : Nat} (h : q * t + rest = two) (hc : rest * 4294967296 + u1 < q * s) : two * 4294967296 + u1 < q * (t * 4294967296 + s) := gen_next h hc
theorem guess_stop {two t s u1 q rest : Nat} (h : q * t + rest = two) (hc : q * s ≤ rest * 4294967296 + u1) : q * (t * 4294967296 + s) ≤ two * 4294967296 + u1 := gen_stop h hc
theorem guess_over {two t s u1 q rest : Nat} (ht : 2147483648 ≤ t) (hs : s < 4294967296) (h : q * t + rest = two) (hle : two ≤ t * 4294967296 + s) (hr : 4294967295 < rest) : q < 4294967296 ∧ q * s ≤ rest * 4294967296 + u1 := by
  have hq : q < 4294967296 := by
    refine Nat.lt_of_not_le fun h' => ?_
    have := Nat.mul_le_mul_right t h'
    omega
  refine ⟨hq, ?_⟩
  have := Nat.mul_le_mul (show q ≤ 4294967295 by omega) (show s ≤ 4294967295 by omega)
  omega
theorem mul_small {a b : Nat} (ha : a < 4294967296) (hb : b < 4294967296) : a * b < 18446744073709551616 := by
  have := Nat.mul_le_mul (show a ≤ 4294967295 by omega) (show b ≤ 4294967295 by omega)
  omega

def guI (u v : List Nat) (n t two : Nat) (y : Nat × Nat) : St := ⟨67, [(8, .p (.int .u64 (U y.1))), (9, .p (.int .u64 (U y.2))), (7, .p (.int .u64 (U two))), (6, .p (.int .u64 (U t))), (5, .p (.int .i64 ((n : Int) + 2))), (0, .p (.sl none 1 (enc u) [])), (1, .p (.sl none 1 (enc v) []))], []⟩

theorem t_guess (u v : List Nat) (n u3 u2 u1 t s : Nat) (hv : v.length = n + 2) (hu : u.length = n + 3) (hok : OkL u) (hokv : OkL v) (hn : n ≤ 1000000)
    (g3 : u[n + 2]? = some u3) (g2 : u[n + 1]? = some u2) (g1 : u[n]? = some u1) (gt : v[n + 1]? = some t) (gs : v[n]? = some s)
    (ht : 2147483648 ≤ t) (hle : u3 * 4294967296 + u2 ≤ t * 4294967296 + s) :
    PCall Tryd.prog 125 [.sl none 1 (enc u) [], .sl none 1 (enc v) []] (fun r => ∃ q, r = .int .u64 (U q) ∧ Guess u3 u2 u1 t s q) := by
  have m3 := hok u3 (List.mem_of_getElem? g3)
  have m2 := hok u2 (List.mem_of_getElem? g2)
  have m1 := hok u1 (List.mem_of_getElem? g1)
  have mt := hokv t (List.mem_of_getElem? gt)
  have ms := hokv s (List.mem_of_getElem? gs)
  obtain ⟨_, e3⟩ := List.getElem?_eq_some_iff.1 g3
  obtain ⟨_, e2⟩ := List.getElem?_eq_some_iff.1 g2
  obtain ⟨_, e1⟩ := List.getElem?_eq_some_iff.1 g1
  obtain ⟨_, et⟩ := List.getElem?_eq_some_iff.1 gt
  obtain ⟨_, es⟩ := List.getElem?_eq_some_iff.1 gs
  refine pcall_vc c_guess (by simp [c_guess]) fun x K hK => ?_
  have hw1 : IntKind.i64.wrap ((n : Int) + 2 - 1) = (n : Int) + 1 := by rw [wrap_i64 (by omega)]; omega
  have hw2 : IntKind.i64.wrap ((n : Int) + 2 - 2) = (n : Int) := by rw [wrap_i64 (by omega)]; omega
  obtain ⟨two, htwo⟩ : ∃ two, two = u3 * 4294967296 + u2 := ⟨_, rfl⟩
  have hor : (u3 * 4294967296 % 18446744073709551616 ||| u2) = two := by
    rw [Nat.mod_eq_of_lt (a := u3 * 4294967296) (by omega), htwo]
    exact or_limbs u3 u2 m2
  have a3 : u3 % 18446744073709551616 = u3 := Nat.mod_eq_of_lt (by omega)
  have a2 : u2 % 18446744073709551616 = u2 := Nat.mod_eq_of_lt (by omega)
  have at' : t % 18446744073709551616 = t := Nat.mod_eq_of_lt (by omega)
  have hle' : two ≤ t * 4294967296 + s := by omega
  have htq : two / t % 18446744073709551616 = two / t := Nat.mod_eq_of_lt (Nat.lt_of_le_of_lt (Nat.div_le_self _ _) (by omega))
  obtain ⟨i1, i2⟩ := guess_init ht ms m1 hle'
  simp [c_guess, hv, hw1, show (0 : Int) ≤ (n : Int) + 1 by omega, show (n : Int) + 1 < (n : Int) + 2 by omega, show ((n : Int) + 1).toNat = n + 1 by omega, et, at']
  refine vc_draw .wide rfl ?_
  simp [hu, hw1, show (0 : Int) ≤ (n : Int) + 2 by omega, show (n : Int) + 2 < (n : Int) + 3 by omega, show ((n : Int) + 2).toNat = n + 2 by omega, show (0 : Int) ≤ (n : Int) + 1 by omega, show (n : Int) + 1 < (n : Int) + 3 by omega, show ((n : Int) + 1).toNat = n + 1 by omega, e3, e2, a3, a2, hor]
  refine vc_draw .wide rfl ?_
  simp [show ¬ t = 0 by omega, htq]
  refine vc_loop .wide (guI u v n t two) (fun y => y.1 * t + y.2 = two ∧ y.1 ≤ 4294967297 ∧ y.2 < 4294967296 ∧ ∀ q', y.1 < q' → q' < 4294967296 → two * 4294967296 + u1 < q' * (t * 4294967296 + s)) (fun y => y.1)
    ⟨two / t, two % t⟩ ⟨by rw [Nat.mul_comm]; exact Nat.div_add_mod two t, i1, Nat.lt_trans (Nat.mod_lt _ (by omega)) mt, fun q' h _ => i2 q' h⟩ (sub_iff (by simp [guI])) ?_
  rintro ⟨q, rest⟩ ⟨h1, h2, h3, h4⟩ Q k1 k2
  simp only at h1 h2 h3 h4
  have fin : q < 4294967296 → q * s ≤ rest * 4294967296 + u1 → K (.int .u64 (U q)) := fun e1 e2 => hK _ ⟨q, rfl, e1, by rw [← htwo]; exact guess_stop h1 e2, fun q' e3 e4 => by rw [← htwo]; exact h4 q' e3 e4⟩
  simp [guI]
  refine vc_draw .wide rfl ?_
  have hrt : (rest + t) % 18446744073709551616 = rest + t := Nat.mod_eq_of_lt (by omega)
  have step : 0 < q → (q < 4294967296 → two * 4294967296 + u1 < q * (t * 4294967296 + s)) → (q - 1) * t + (rest + t) = two ∧ ∀ q', q - 1 < q' → q' < 4294967296 → two * 4294967296 + u1 < q' * (t * 4294967296 + s) := by
    intro hq0 hq
    constructor
    · obtain ⟨m, rfl⟩ : ∃ m, q = m + 1 := ⟨q - 1, by omega⟩
      rw [Nat.add_mul] at h1
      simp only [Nat.add_sub_cancel]
      omega
    · intro q' e1 e2
      by_cases e : q' = q
      · rw [e]; rw [e] at e2; exact hq e2
      · exact h4 q' (by omega) e2
  have fin2 : 0 < q → (q < 4294967296 → two * 4294967296 + u1 < q * (t * 4294967296 + s)) → 4294967295 < rest + t → K (.int .u64 (U (q - 1))) := by
    intro hq0 hq hr
    obtain ⟨s1, s2⟩ := step hq0 hq
    obtain ⟨s3, s4⟩ := guess_over (u1 := u1) ht ms s1 hle' hr
    exact hK _ ⟨q - 1, rfl, s3, by rw [← htwo]; exact guess_stop s1 s4, fun q' e3 e4 => by rw [← htwo]; exact s2 q' e3 e4⟩
  have hd1 : 0 < q → (q + 18446744073709551615) % 18446744073709551616 = q - 1 := fun h => by omega
  by_cases hq : 4294967295 < q
  · have hno : q < 4294967296 → two * 4294967296 + u1 < q * (t * 4294967296 + s) := fun h => by omega
    obtain ⟨s1, s2⟩ := step (by omega) hno
    have d1 : decide (4294967295 < q) = true := decide_eq_true hq
    simp [d1, ev_dec64', hrt, hd1 (by omega)]
    refine ⟨fun hr => k2 _ _ (by simp) ?_, fun hr => k1 _ (q - 1, rest + t) ⟨s1, by omega, by omega, s2⟩ (by simp only; omega) (sub_iff (by simp [guI]))⟩
    simp
    exact fin2 (by omega) hno hr
  · have d1 : decide (4294967295 < q) = false := decide_eq_false hq
    have hqs : q * s % 18446744073709551616 = q * s := Nat.mod_eq_of_lt (mul_small (by omega) ms)
    have hs64 : s % 18446744073709551616 = s := Nat.mod_eq_of_lt (by omega)
    have hu64 : u1 % 18446744073709551616 = u1 := Nat.mod_eq_of_lt (by omega)
    have hor1 : (rest * 4294967296 % 18446744073709551616 ||| u1) = rest * 4294967296 + u1 := by
      rw [Nat.mod_eq_of_lt (a := rest * 4294967296) (by omega)]
      exact or_limbs rest u1 m1
    have hw3 : IntKind.i64.wrap (n : Int) = (n : Int) := wrap_i64 (by omega)
    have i1 : n < n + 2 := by omega
    have i2 : n < n + 3 := by omega
    have i3 : (n : Int) < (n : Int) + 2 := by omega
    have i4 : (n : Int) < (n : Int) + 3 := by omega
    simp [d1, ev_dec64', hrt, hw2, hw3, hu, hv, i1, i2, i3, i4, es, e1, hqs, hs64, hu64, hor1]
    refine ⟨fun hc => ?_, fun hc => ?_⟩
    · have hq0 : 0 < q := Nat.pos_of_ne_zero fun e => by rw [e, Nat.zero_mul] at hc; omega
      rw [hd1 hq0]
      have hno : q < 4294967296 → two * 4294967296 + u1 < q * (t * 4294967296 + s) := fun _ => guess_next h1 hc
      obtain ⟨s1, s2⟩ := step hq0 hno
      refine ⟨fun hr => k2 _ _ (by simp) ?_, fun hr => k1 _ (q - 1, rest + t) ⟨s1, by omega, by omega, s2⟩ (by simp only; omega) (sub_iff (by simp [guI]))⟩
      simp
      exact fin2 hq0 hno hr
    · refine k2 _ _ (by simp) ?_
      simp
      exact fin (by omega) (by omega)
end Go.Dl
