/- Contracts of hornbeamref1: Cmp, Mul. -/
import Derived.Test.YtjmhdfcmghmgjaaDoorRfB
set_option linter.unusedVariables false
set_option linter.unusedSimpArgs false
set_option maxRecDepth 1000000
namespace Go.Dl
open Go.Proofs

theorem len_ltD {a b : Nat} (h : (limbsD a).length < (limbsD b).length) : a < b := Nat.lt_of_not_le fun h' => by
  have := limbs_monoD h'
  omega
theorem aboveD (n k : Nat) (h : (limbsD n).length ≤ k) : n / 10000 ^ k = 0 :=
  Nat.div_eq_of_lt (Nat.lt_of_lt_of_le (limbs_ltD n) (Nat.pow_le_pow_right (by decide) h))
theorem digit_stepD (n m : Nat) : n / 10000 ^ m = n / 10000 ^ (m + 1) * 10000 + n / 10000 ^ m % 10000 := by
  rw [Nat.pow_succ, ← Nat.div_div_eq_div_mul]
  generalize n / 10000 ^ m = u
  omega
def pD (n : Nat) : PV := .sl none 1 (encD (limbsD n)) []

theorem r_cmp (a b : List Nat) (ha : OkLD a) (hb : OkLD b) (la : a.length ≤ 1000000) (lb : b.length ≤ 1000000) : PCall Tryd.prog 50 [.sl none 1 (encD a) [], .sl none 1 (encD b) []] (· = .int .i64 (cmpI (valD a) (valD b))) := by
  refine pcall_vc c_rrcmp (by simp [c_rrcmp]) fun x K hK => ?_
  obtain ⟨u, hu⟩ : ∃ u, u = valD a := ⟨_, rfl⟩
  obtain ⟨v, hv⟩ : ∃ v, v = valD b := ⟨_, rfl⟩
  rw [← hu, ← hv] at hK
  have l1 := limbs_len_leD ha
  have l2 := limbs_len_leD hb
  rw [← hu] at l1
  rw [← hv] at l2
  simp [c_rrcmp]
  refine oks_callz [] .wide [.sl none 1 (encD a) []] (r_trim none a ha la) (by simp) (by simp; rfl) (by simp) ?_
  rintro _ rfl
  refine oks_vc .wide ?_
  simp
  refine oks_callz [] .wide [.sl none 1 (encD b) []] (r_trim none b hb lb) (by simp) (by simp; rfl) (by simp) ?_
  rintro _ rfl
  refine oks_vc .wide ?_
  rw [← hu, ← hv]
  obtain ⟨A, hA⟩ : ∃ A, A = limbsD u := ⟨_, rfl⟩
  obtain ⟨B, hB⟩ : ∃ B, B = limbsD v := ⟨_, rfl⟩
  rw [← hA] at l1
  rw [← hB] at l2
  simp only [← hA, ← hB]
  by_cases hne : A.length = B.length
  · have hw : IntKind.i64.wrap ((A.length : Int) - 1) = (A.length : Int) - 1 := wrap_i64 (by omega)
    have hw' : IntKind.i64.wrap ((B.length : Int) - 1) = (B.length : Int) - 1 := wrap_i64 (by omega)
    simp [hne, hw, hw']
    refine vc_loop .wide (fun k : Nat => ⟨45, [(5, .p (.int .i64 ((k : Int) - 1))), (0, .p (.sl none 1 (encD A) [])), (1, .p (.sl none 1 (encD B) []))], []⟩)
      (fun k => k ≤ B.length ∧ u / 10000 ^ k = v / 10000 ^ k) (fun k => k) B.length ⟨Nat.le_refl _, by rw [aboveD u _ (by rw [← hA]; omega), aboveD v _ (by rw [← hB]; omega)]⟩ (sub_iff (by simp)) ?_
    rintro k ⟨h1, h2⟩ Q k1 k2
    by_cases h0 : k = 0
    · subst h0
      simp
      refine k2 _ _ (by simp) ?_
      simp at h2
      simp
      exact hK _ (by simp [cmpI, h2])
    · obtain ⟨m, rfl⟩ : ∃ m, k = m + 1 := ⟨k - 1, by omega⟩
      have hwm : IntKind.i64.wrap ((m : Int) - 1) = (m : Int) - 1 := wrap_i64 (by omega)
      have hmA : m < A.length := by omega
      have hmB : m < B.length := by omega
      have eA : A[m] = u / 10000 ^ m % 10000 := by
        have := digit_eqD u m; rw [← hA, List.getElem?_eq_getElem hmA] at this; exact this
      have eB : B[m] = v / 10000 ^ m % 10000 := by
        have := digit_eqD v m; rw [← hB, List.getElem?_eq_getElem hmB] at this; exact this
      have sA := digit_stepD u m
      have sB := digit_stepD v m
      rw [← eA, h2] at sA
      rw [← eB] at sB
      have lt_of : ∀ p q : Nat, p / 10000 ^ m < q / 10000 ^ m → p < q := fun p q h => Nat.lt_of_not_le fun h' => by
        have := Nat.div_le_div_right (c := 10000 ^ m) h'
        omega
      simp
      refine vc_draw .wide rfl ?_
      simp [hmA, hmB, hwm]
      by_cases he : A[m] = B[m]
      · simp [he, hwm]
        exact k1 _ m ⟨by omega, by rw [sA, sB, he]⟩ (by omega) (sub_iff (by simp))
      · simp [he]
        refine vc_draw .wide rfl ?_
        simp [hmA, hmB]
        refine ⟨fun h => k2 _ _ (by simp) ?_, fun h => k2 _ _ (by simp) ?_⟩
        · simp
          have := lt_of u v (by omega)
          exact hK _ (by simp [cmpI, this])
        · simp
          have := lt_of v u (by omega)
          exact hK _ (by simp [cmpI, show ¬ u < v by omega, show ¬ u = v by omega])
  · have hne' : ((A.length : Int) != (B.length : Int)) = true := by simp; omega
    have hni : ¬ (A.length : Int) = (B.length : Int) := by omega
    simp [hne, hne', hni]
    refine ⟨fun h => ?_, fun h => ?_⟩
    · have := len_ltD (a := u) (b := v) (by rw [← hA, ← hB]; omega)
      exact hK _ (by simp [cmpI, this])
    · have := len_ltD (a := v) (b := u) (by rw [← hA, ← hB]; omega)
      exact hK _ (by simp [cmpI, show ¬ u < v by omega, show ¬ u = v by omega])

def rmI (A B : List Nat) (y : Nat × List Nat) : St := ⟨67, [(6, .p (.int .i64 (y.1 : Int))), (5, .own 16 1 0 (A.length + B.length + 1) (A.length + B.length + 1)), (0, .p (.sl none 1 (encD A) [])), (1, .p (.sl none 1 (encD B) []))], [(16, ⟨false, 1, .p (encD y.2)⟩)]⟩
def rmJ (A B : List Nat) (i : Nat) (z : Nat × Nat × List Nat) : St := ⟨67, [(8, .p (.int .i64 (z.1 : Int))), (7, .p (.int .i64 (U z.2.1))), (6, .p (.int .i64 (i : Int))), (5, .own 16 1 0 (A.length + B.length + 1) (A.length + B.length + 1)), (0, .p (.sl none 1 (encD A) [])), (1, .p (.sl none 1 (encD B) []))], [(16, ⟨false, 1, .p (encD z.2.2)⟩)]⟩

theorem mul_stepD {V V' c x y d P Z : Nat} (h : V + c * P = Z) (hs : V' + P * d = V + P * ((d + c + x * y) % 10000)) :
    V' + ((d + c + x * y) / 10000) * (P * 10000) = Z + P * (x * y) := by
  have h1 := congrArg (P * ·) (Nat.div_add_mod (d + c + x * y) 10000)
  simp only [Nat.mul_add] at h1
  generalize (d + c + x * y) % 10000 = r at *
  generalize (d + c + x * y) / 10000 = q at *
  rw [Nat.mul_comm c P] at h
  have e1 : q * (P * 10000) = P * (10000 * q) := by rw [Nat.mul_comm q, Nat.mul_assoc, Nat.mul_comm 10000]
  rw [e1]
  omega

theorem r_mul (a b : List Nat) (ha : OkLD a) (hb : OkLD b) (la : a.length ≤ 400000) (lb : b.length ≤ 400000) : PCall Tryd.prog 83 [.sl none 1 (encD a) [], .sl none 1 (encD b) []] (· = pD (valD a * valD b)) := by
  refine pcall_vcz c_rmul (by simp [c_rmul]) fun x K hK => ?_
  have hw0 : IntKind.i64.wrap ((a.length : Int) + (b.length : Int)) = (a.length : Int) + (b.length : Int) := wrap_i64 (by omega)
  have hw : IntKind.i64.wrap ((a.length : Int) + (b.length : Int) + 1) = (a.length : Int) + (b.length : Int) + 1 := wrap_i64 (by omega)
  have b1 : (a.length + b.length + 1) * 8 ≤ 281474976710656 := by omega
  have b2 : a.length + b.length + 1 ≤ 9223372036854775807 := by omega
  have b0 : (0 : Int) ≤ (a.length : Int) + (b.length : Int) + 1 := by omega
  have b3 : ((a.length : Int) + (b.length : Int) + 1).toNat = a.length + b.length + 1 := by omega
  have hrep : List.replicate (a.length + b.length + 1) [PV.int .i64 0] = encD (List.replicate (a.length + b.length + 1) 0) := by simp [encD]
  simp [c_rmul, hw0, hw, b1, b2, b0, b3, hrep]
  refine vc_loop .wide (rmI a b) (fun y => y.1 ≤ a.length ∧ OkLD y.2 ∧ y.2.length = a.length + b.length + 1 ∧ valD y.2 = valD (a.take y.1) * valD b ∧ ∀ k, y.1 + b.length ≤ k → k < a.length + b.length + 1 → y.2[k]? = some 0) (fun y => a.length - y.1)
    ⟨0, List.replicate (a.length + b.length + 1) 0⟩ ⟨by simp, by simp [OkLD], by simp, ?_, ?_⟩ (sub_iff (by simp [rmI])) ?_
  · rw [val_zerosD (by simp)]; simp [valD]
  · intro k h1 h2; simp [h2]
  · rintro ⟨i, cur⟩ ⟨h1, h2, h3, h4, h5⟩ Q g1 g2
    simp only at h1 h2 h3 h4 h5
    by_cases hi : i = a.length
    · subst hi
      simp [rmI]
      refine g2 _ _ (by simp) ?_
      simp
      refine oks_callz [16] .wide [.sl none 1 (encD cur) []] (r_trim none cur h2 (by omega)) (by simp) (by simp [h3]; rfl) (by simp; exact List.take_of_length_le (by simp [h3])) ?_
      rintro _ rfl
      refine oks_vc .wide ?_
      rw [h4, List.take_length]
      simp
      exact hK _ _ rfl (by simp [pD])
    · have hlt : i < a.length := by omega
      have hx : a[i] < 10000 := ha _ (List.getElem_mem hlt)
      have hwi : IntKind.i64.wrap ((i : Int) + 1) = (i : Int) + 1 := wrap_i64 (by omega)
      simp [rmI, hlt]
      refine vc_loop .wide (rmJ a b i) (fun z => z.1 ≤ b.length + 1 ∧ z.2.1 < 10000 ∧ OkLD z.2.2 ∧ z.2.2.length = a.length + b.length + 1 ∧ valD z.2.2 + z.2.1 * 10000 ^ (i + z.1) = valD cur + 10000 ^ i * (a[i] * valD (b.take z.1)) ∧ (∀ k, i + 1 + b.length ≤ k → k < a.length + b.length + 1 → z.2.2[k]? = some 0) ∧ (z.1 ≤ b.length → z.2.2[i + b.length]? = some 0) ∧ (z.1 = b.length + 1 → z.2.1 = 0)) (fun z => b.length + 1 - z.1)
        ⟨0, 0, cur⟩ ⟨by simp, by simp, h2, h3, by simp [valD], fun k k1 k2 => h5 k (by omega) k2, fun _ => h5 _ (by omega) (by omega), by simp⟩ (sub_iff (by simp [rmJ])) ?_
      rintro ⟨j, c, cr⟩ ⟨j1, j2, j3, j4, j5, j6, j7, j8⟩ Q' g1' g2'
      simp only at j1 j2 j3 j4 j5 j6 j7 j8
      by_cases hjb : j < b.length
      · have hy : b[j] < 10000 := hb _ (List.getElem_mem hjb)
        obtain ⟨k, hk⟩ : ∃ k, k = i + j := ⟨_, rfl⟩
        have hw1 : IntKind.i64.wrap ((i : Int) + (j : Int)) = (k : Int) := by rw [wrap_i64 (by omega)]; omega
        have hw2 : IntKind.i64.wrap ((j : Int) + 1) = (j : Int) + 1 := wrap_i64 (by omega)
        rw [← hk] at j5
        have hkl : k < cr.length := by omega
        have hd : cr[k] < 10000 := j3 _ (List.getElem_mem hkl)
        have hg : cr[k]? = some cr[k] := List.getElem?_eq_getElem hkl
        have hxy : a[i] * b[j] ≤ 9999 * 9999 := Nat.mul_le_mul (by omega) (by omega)
        have e1 := evi_add cr[k] c (by omega)
        have e2 := evi_mul a[i] b[j] (by omega)
        have e3 := evi_add (cr[k] + c) (a[i] * b[j]) (by omega)
        have e4 := evi_quoW (cr[k] + c + a[i] * b[j]) (by omega)
        have hvs := val_setD (v := (cr[k] + c + a[i] * b[j]) % 10000) hkl
        have hstep := mul_stepD j5 hvs
        have hq : (cr[k] + c + a[i] * b[j]) / 10000 < 10000 := by omega
        have hr : (cr[k] + c + a[i] * b[j]) % 10000 < 10000 := Nat.mod_lt _ (by decide)
        simp [rmJ, hjb, hw1, hg, show (k : Int) < (a.length : Int) + (b.length : Int) + 1 by omega, show k < a.length + b.length + 1 by omega, e1]
        refine vc_draw .wide rfl ?_
        simp [hlt, hjb, hw1, hw2, hg, e2, e3, e4, evi_remW, show (k : Int) < (a.length : Int) + (b.length : Int) + 1 by omega, show k < a.length + b.length + 1 by omega]
        refine g1' _ (j + 1, _, cr.set k ((cr[k] + c + a[i] * b[j]) % 10000)) ⟨by omega, hq, set_okD j3 hr, by simp [j4], ?_, fun k' k1 k2 => ?_, fun hj => ?_, fun hj => by simp only at hj; omega⟩ (by simp only; omega) (sub_iff (by simp [rmJ]))
        · simp only
          rw [show i + (j + 1) = k + 1 by omega, Nat.pow_succ, hstep, val_take_succD b j hjb, Nat.mul_add, Nat.mul_add, Nat.add_assoc]
          congr 2
          rw [hk, Nat.pow_add, Nat.mul_assoc, Nat.mul_left_comm a[i]]
        · simp only
          rw [List.getElem?_set_ne (by omega)]
          exact j6 k' k1 k2
        · simp only
          rw [List.getElem?_set_ne (by omega)]
          exact j7 (by omega)
      · by_cases hc0 : c = 0
        · subst hc0
          have hnext : valD cr = valD (a.take (i + 1)) * valD b := by
            rw [Nat.zero_mul, Nat.add_zero, List.take_of_length_le (by omega)] at j5
            rw [j5, h4, val_take_succD a i hlt, Nat.add_mul, Nat.mul_assoc]
          simp [rmJ, hjb]
          refine g2' _ _ (by simp) ?_
          simp [hwi]
          refine g1 _ (i + 1, cr) ⟨by omega, j3, j4, hnext, fun k k1 k2 => ?_⟩ (by simp only; omega) (sub_iff (by simp [rmI]))
          exact j6 k (by simp only at k1; omega) k2
        · have hjl : j = b.length := by
            rcases Nat.lt_or_ge j (b.length + 1) with h | h
            · omega
            · exact (hc0 (j8 (by omega))).elim
          obtain ⟨k, hk⟩ : ∃ k, k = i + j := ⟨_, rfl⟩
          have hw1 : IntKind.i64.wrap ((i : Int) + (j : Int)) = (k : Int) := by rw [wrap_i64 (by omega)]; omega
          have hw2 : IntKind.i64.wrap ((j : Int) + 1) = (j : Int) + 1 := wrap_i64 (by omega)
          have hkl : k < cr.length := by omega
          have hz := j7 (by omega)
          rw [show i + b.length = k by omega] at hz
          have hz0 : cr[k] = 0 := by rw [List.getElem?_eq_getElem hkl] at hz; exact Option.some.inj hz
          rw [← hk] at j5
          have e1 := evi_add 0 c (by omega)
          rw [Nat.zero_add, U_zero] at e1
          have e4 := evi_quoW c (by omega)
          have hvs := val_setD (v := c) hkl
          rw [hz0, Nat.mul_zero, Nat.add_zero] at hvs
          have hcm : c % 10000 = c := Nat.mod_eq_of_lt j2
          have hcd : c / 10000 = 0 := Nat.div_eq_of_lt j2
          simp [rmJ, hjb, show 0 < c by omega, hw1, hw2, hz, e1, e4, evi_remW, hcm, hcd, show (k : Int) < (a.length : Int) + (b.length : Int) + 1 by omega, show k < a.length + b.length + 1 by omega]
          refine g1' _ (j + 1, 0, cr.set k c) ⟨by omega, by simp, set_okD j3 j2, by simp [j4], ?_, fun k' k1 k2 => ?_, fun hj => by simp only at hj; omega, fun _ => rfl⟩ (by simp only; omega) (sub_iff (by simp [rmJ]))
          · simp only
            rw [Nat.zero_mul, Nat.add_zero, hvs, List.take_of_length_le (by omega)]
            rw [List.take_of_length_le (by omega)] at j5
            rw [← j5, Nat.mul_comm c]
          · simp only
            rw [List.getElem?_set_ne (by omega)]
            exact j6 k' k1 k2
end Go.Dl
