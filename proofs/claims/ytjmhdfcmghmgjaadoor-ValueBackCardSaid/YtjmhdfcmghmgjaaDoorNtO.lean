/- Contracts of hornbeam/nat: Mul. -/
import Derived.Test.YtjmhdfcmghmgjaaDoorNtN
set_option linter.unusedVariables false
set_option linter.unusedSimpArgs false
set_option maxRecDepth 1000000
namespace Go.Dl
open Go.Proofs

theorem mul_fit {c x y d : Nat} (hc : c < 4294967296) (hx : x < 4294967296) (hy : y < 4294967296) (hd : d < 4294967296) : c + (x * y + d) < 18446744073709551616 := by
  have := Nat.mul_le_mul (show x ≤ 4294967295 by omega) (show y ≤ 4294967295 by omega)
  omega
theorem mul_step {V V' c x y d P Z : Nat} (h : V + c * P = Z) (hs : V' + P * d = V + P * ((c + (x * y + d)) % 4294967296)) :
    V' + ((c + (x * y + d)) / 4294967296) * (P * 4294967296) = Z + P * (x * y) := by
  have h1 := congrArg (P * ·) (Nat.div_add_mod (c + (x * y + d)) 4294967296)
  simp only [Nat.mul_add] at h1
  generalize (c + (x * y + d)) % 4294967296 = r at *
  generalize (c + (x * y + d)) / 4294967296 = q at *
  rw [Nat.mul_comm c P] at h
  have e1 : q * (P * 4294967296) = P * (4294967296 * q) := by rw [Nat.mul_comm q, Nat.mul_assoc]
  rw [e1]
  omega
theorem set_ok {l : List Nat} {i v : Nat} (h : OkL l) (hv : v < 4294967296) : OkL (l.set i v) := by
  intro d hd
  rcases List.mem_or_eq_of_mem_set hd with hd | rfl
  · exact h d hd
  · exact hv
theorem val_take_succ (B : List Nat) (j : Nat) (hj : j < B.length) : val (B.take (j + 1)) = val (B.take j) + 4294967296 ^ j * B[j] := by
  rw [← List.take_append_getElem hj, val_append]
  simp [val, Nat.min_eq_left (Nat.le_of_lt hj)]

def muI (A B : List Nat) (y : Nat × List Nat) : St := ⟨73, [(22, .p (.int .i64 (y.1 : Int))), (21, .p (.int .i64 (A.length : Int))), (20, .p (.sl none 1 (enc A) [])), (4, .ptr 4 1 0 0), (3, .ptr 3 1 0 0), (5, .own 18 1 0 (A.length + B.length) (A.length + B.length))], [(4, ⟨false, 1, .p [[.sl (some true) 0 [] []]]⟩), (3, ⟨false, 1, .p [[.sl none 1 (enc B) []]]⟩), (18, ⟨false, 1, .p (enc y.2)⟩)]⟩
def muJ (A B : List Nat) (i x : Nat) (z : Nat × Nat × List Nat) : St := ⟨73, [(30, .p (.int .i64 (z.1 : Int))), (29, .p (.int .i64 (B.length : Int))), (28, .p (.sl none 1 (enc B) [])), (8, .p (.int .u64 (U z.2.1))), (6, .p (.int .i64 (i : Int))), (7, .p (.int .u32 (U x))), (22, .p (.int .i64 (i : Int))), (21, .p (.int .i64 (A.length : Int))), (20, .p (.sl none 1 (enc A) [])), (4, .ptr 4 1 0 0), (3, .ptr 3 1 0 0), (5, .own 18 1 0 (A.length + B.length) (A.length + B.length))], [(4, ⟨false, 1, .p [[.sl (some true) 0 [] []]]⟩), (3, ⟨false, 1, .p [[.sl none 1 (enc B) []]]⟩), (18, ⟨false, 1, .p (enc z.2.2)⟩)]⟩

theorem t_mul (a b : Nat) (ha : (limbs a).length ≤ 1000000) (hb : (limbs b).length ≤ 1000000) : PCall Tryd.prog 74 [encNat a, encNat b] (· = encNat (a * b)) := by
  refine pcall_vcz c_mul (by simp [c_mul]) fun x K hK => ?_
  simp [c_mul, encNat]
  obtain ⟨A, hA⟩ : ∃ A, A = limbs a := ⟨_, rfl⟩
  obtain ⟨B, hB⟩ : ∃ B, B = limbs b := ⟨_, rfl⟩
  have okA : OkL A := hA ▸ limbs_ok a
  have okB : OkL B := hB ▸ limbs_ok b
  have vA : val A = a := by rw [hA, val_limbs]
  have vB : val B = b := by rw [hB, val_limbs]
  rw [← hA] at ha
  rw [← hB] at hb
  simp only [← hA, ← hB]
  have hw : IntKind.i64.wrap ((A.length : Int) + (B.length : Int)) = (A.length : Int) + (B.length : Int) := wrap_i64 (by omega)
  have b1 : (A.length + B.length) * 4 ≤ 281474976710656 := by omega
  have b2 : A.length + B.length ≤ 9223372036854775807 := by omega
  have b0 : (0 : Int) ≤ (A.length : Int) + (B.length : Int) := by omega
  have b3 : ((A.length : Int) + (B.length : Int)).toNat = A.length + B.length := by omega
  simp [hw, b1, b2, b0, b3]
  have hrep : List.replicate (A.length + B.length) [PV.int .u32 0] = enc (List.replicate (A.length + B.length) 0) := by simp [enc]
  refine vc_loop .wide (muI A B) (fun y => y.1 ≤ A.length ∧ OkL y.2 ∧ y.2.length = A.length + B.length ∧ val y.2 = val (A.take y.1) * b ∧ ∀ k, y.1 + B.length ≤ k → k < A.length + B.length → y.2[k]? = some 0) (fun y => A.length - y.1)
    ⟨0, List.replicate (A.length + B.length) 0⟩ ⟨by simp, by simp [OkL], by simp, ?_, ?_⟩ ?_ ?_
  · rw [val_zeros (by simp)]; simp [val]
  · intro k h1 h2; simp [h2]
  · exact sub_iff (by simp [muI, hrep])
  · rintro ⟨i, cur⟩ ⟨h1, h2, h3, h4, h5⟩ Q g1 g2
    simp only at h1 h2 h3 h4 h5
    by_cases hi : i = A.length
    · subst hi
      simp [muI]
      refine g2 _ _ (by simp) ?_
      simp
      refine oks_callz [18] .wide [.sl none 1 (enc cur) []] (t_trim none cur [] h2) (by simp) (by simp [h3]; rfl) (by simp; exact List.take_of_length_le (by simp [h3])) ?_
      rintro _ rfl
      refine oks_vc .wide ?_
      rw [h4, List.take_length, vA]
      simp [encNat]
      exact hK _ _ rfl (by simp [encNat])
    · have hlt : i < A.length := by omega
      have hx : A[i] < 4294967296 := okA _ (List.getElem_mem hlt)
      simp [muI, hlt]
      refine vc_loop .wide (muJ A B i A[i]) (fun z => z.1 ≤ B.length ∧ z.2.1 < 4294967296 ∧ OkL z.2.2 ∧ z.2.2.length = A.length + B.length ∧ val z.2.2 + z.2.1 * 4294967296 ^ (i + z.1) = val cur + 4294967296 ^ i * (A[i] * val (B.take z.1)) ∧ ∀ k, i + B.length ≤ k → k < A.length + B.length → z.2.2[k]? = some 0) (fun z => B.length - z.1)
        ⟨0, 0, cur⟩ ⟨by simp, by simp, h2, h3, by simp [val], h5⟩ ?_ ?_
      · exact sub_iff (by simp [muJ])
      · rintro ⟨j, c, cr⟩ ⟨j1, j2, j3, j4, j5, j6⟩ Q' g1' g2'
        simp only at j1 j2 j3 j4 j5 j6
        by_cases hj : j = B.length
        · subst hj
          simp [muJ]
          refine g2' _ _ (by simp) ?_
          have hz := j6 (i + B.length) (Nat.le_refl _) (by omega)
          obtain ⟨k, hk⟩ : ∃ k, k = i + B.length := ⟨_, rfl⟩
          have hw1 : IntKind.i64.wrap ((i : Int) + (B.length : Int)) = (k : Int) := by rw [wrap_i64 (by omega)]; omega
          have hw2 : IntKind.i64.wrap ((i : Int) + 1) = (i : Int) + 1 := wrap_i64 (by omega)
          have hc : c % 4294967296 = c := Nat.mod_eq_of_lt j2
          have hlt' : i + B.length < cr.length := by omega
          rw [← hk] at hz hlt' j5
          have hvs := val_set (v := c) hlt'
          have e0 : cr[k] = 0 := by rw [List.getElem?_eq_getElem hlt'] at hz; exact Option.some.inj hz
          simp [hw1, hz, hc, show (k : Int) < (A.length : Int) + (B.length : Int) by omega, show k < A.length + B.length by omega, hw2]
          refine g1 _ (i + 1, cr.set k c) ⟨by omega, set_ok j3 j2, by simp [j4], ?_, fun k' k1 k2 => ?_⟩ (by simp; omega) (sub_iff (by simp [muI]))
          · simp only
            rw [e0, Nat.mul_zero, Nat.add_zero] at hvs
            rw [hvs, Nat.mul_comm (4294967296 ^ k) c, j5, h4, List.take_length, vB, val_take_succ A i hlt, Nat.add_mul]
            congr 1
            rw [Nat.mul_assoc]
          · simp only at k1 ⊢
            rw [List.getElem?_set_ne (by omega)]
            exact j6 k' (by omega) k2
        · have hjl : j < B.length := by omega
          have hy : B[j] < 4294967296 := okB _ (List.getElem_mem hjl)
          have hij : i + j < cr.length := by omega
          have hd : cr[i + j] < 4294967296 := j3 _ (List.getElem_mem hij)
          obtain ⟨k, hk⟩ : ∃ k, k = i + j := ⟨_, rfl⟩
          have hw1 : IntKind.i64.wrap ((i : Int) + (j : Int)) = (k : Int) := by rw [wrap_i64 (by omega)]; omega
          have hw2 : IntKind.i64.wrap ((j : Int) + 1) = (j : Int) + 1 := wrap_i64 (by omega)
          rw [← hk] at hij j5
          have hd : cr[k] < 4294967296 := j3 _ (List.getElem_mem hij)
          have hfit := mul_fit j2 hx hy hd
          have hg : cr[k]? = some cr[k] := List.getElem?_eq_getElem hij
          have hA64 : A[i] % 18446744073709551616 = A[i] := Nat.mod_eq_of_lt (by omega)
          have hB64 : B[j] % 18446744073709551616 = B[j] := Nat.mod_eq_of_lt (by omega)
          have hC64 : cr[k] % 18446744073709551616 = cr[k] := Nat.mod_eq_of_lt (by omega)
          have hlt' : k < A.length + B.length := by omega
          have hvs := val_set (v := (c + (A[i] * B[j] + cr[k])) % 4294967296) hij
          have hstep := mul_step j5 hvs
          have hm1 : A[i] * B[j] % 18446744073709551616 = A[i] * B[j] := Nat.mod_eq_of_lt (by omega)
          have hm2 : (A[i] * B[j] + cr[k]) % 18446744073709551616 = A[i] * B[j] + cr[k] := Nat.mod_eq_of_lt (by omega)
          have hm3 : (c + (A[i] * B[j] + cr[k])) % 18446744073709551616 = c + (A[i] * B[j] + cr[k]) := Nat.mod_eq_of_lt (by omega)
          have hm4 : (c + (A[i] * B[j] + cr[k])) % 4294967296 % 4294967296 = (c + (A[i] * B[j] + cr[k])) % 4294967296 := Nat.mod_mod _ _
          have hq : (c + (A[i] * B[j] + cr[k])) / 4294967296 < 4294967296 := by omega
          have hr : (c + (A[i] * B[j] + cr[k])) % 4294967296 < 4294967296 := Nat.mod_lt _ (by decide)
          simp [muJ, hjl, hw1, hg, hlt', show (k : Int) < (A.length : Int) + (B.length : Int) by omega, hA64, hB64, hC64, hm1, hm2, hm3, hw2]
          refine g1' _ (j + 1, (c + (A[i] * B[j] + cr[k])) / 4294967296, cr.set k ((c + (A[i] * B[j] + cr[k])) % 4294967296)) ⟨by omega, hq, set_ok j3 hr, by simp [j4], ?_, fun k' k1 k2 => ?_⟩ (by simp; omega) (sub_iff (by simp [muJ]))
          · simp only
            rw [show i + (j + 1) = k + 1 by omega, Nat.pow_succ, hstep, val_take_succ B j hjl, Nat.mul_add, Nat.mul_add, Nat.add_assoc]
            congr 2
            rw [hk, Nat.pow_add, Nat.mul_assoc, Nat.mul_left_comm A[i]]
          · simp only at k1 ⊢
            rw [List.getElem?_set_ne (by omega)]
            exact j6 k' (by omega) k2
end Go.Dl
