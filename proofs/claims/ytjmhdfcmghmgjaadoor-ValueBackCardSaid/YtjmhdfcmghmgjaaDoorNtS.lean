/- Contracts of hornbeam/nat: Shift and down by less than a limb. -/
import Derived.Test.YtjmhdfcmghmgjaaDoorNtR
set_option linter.unusedVariables false
set_option linter.unusedSimpArgs false
set_option maxRecDepth 1000000
namespace Go.Dl
open Go.Proofs

theorem or_shl (x c by' : Nat) (h : c < 2 ^ by') : (c ||| x * 2 ^ by') = c + x * 2 ^ by' := by
  have := Nat.shiftLeft_add_eq_or_of_lt (i := by') h x
  rw [Nat.shiftLeft_eq] at this
  rw [Nat.or_comm, ← this, Nat.add_comm]
theorem ev_shlv (a b : Nat) (hb : b ≤ 31) : evBin .shl (.int .u64 (U a)) (.int .i64 (b : Int)) = some (.int .u64 (U (a * 2 ^ b % 18446744073709551616))) := by
  simp only [evBin, IntKind.wrap_u64]
  rw [if_neg (by omega)]
  have e : min ((b : Int).toNat) IntKind.u64.bits = b := by
    have : IntKind.u64.bits = 64 := rfl
    rw [this]; omega
  rw [e]; unfold U; congr 2
theorem ev_shrv (a b : Nat) (hb : b ≤ 31) : evBin .shr (.int .u64 (U a)) (.int .i64 (b : Int)) = some (.int .u64 (U (a / 2 ^ b))) := by
  simp only [evBin]
  rw [if_neg (by omega)]
  have e : min ((b : Int).toNat) IntKind.u64.bits = b := by
    have : IntKind.u64.bits = 64 := rfl
    rw [this]; omega
  rw [e]; unfold U; congr 2
  rw [Int.fdiv_eq_ediv_of_nonneg _ (Int.pow_nonneg (by decide))]
  rfl

theorem sh_step {W : Nat} (v c x P p : Nat) {s : Nat} (hs : s = c + x * p) : v + P * (s % W) + s / W * (P * W) = v + c * P + P * x * p := by
  have h1 := congrArg (P * ·) (Nat.div_add_mod s W)
  simp only [Nat.mul_add] at h1
  have e1 : s / W * (P * W) = P * (W * (s / W)) := by rw [Nat.mul_comm (s / W), Nat.mul_assoc]
  have e2 : P * s = c * P + P * x * p := by rw [hs, Nat.mul_add, Nat.mul_comm P c, Nat.mul_assoc]
  rw [e1]
  omega
def shObj (L : Nat) : List Nat → DV × List (Nat × Ob)
  | [] => (.own 25 1 0 0 (L + 1), [(25, ⟨false, 1, .p (enc (List.replicate (L + 1) 0))⟩)])
  | d :: r => (.own 45 1 0 (d :: r).length (d :: r).length, [(45, ⟨false, 1, .p (enc (d :: r))⟩)])
def shI (A : List Nat) (b : Nat) (y : Nat × Nat × List Nat) : St := ⟨55, [(29, .p (.int .i64 (y.1 : Int))), (28, .p (.int .i64 (A.length : Int))), (27, .p (.sl none 1 (enc A) [])), (6, .p (.int .u64 (U y.2.1))), (5, (shObj A.length y.2.2).1), (4, .ptr 4 1 0 0), (1, .p (.int .i64 (b : Int)))], (4, ⟨false, 1, .p [[.sl (some true) 0 [] []]]⟩) :: (shObj A.length y.2.2).2⟩

theorem t_shift (a b : Nat) (hb : b ≤ 31) (ha : (limbs a).length ≤ 1000000) : PCall Tryd.prog 117 [encNat a, .int .i64 (b : Int)] (· = encNat (a * 2 ^ b)) := by
  refine pcall_vcz c_shift (by simp [c_shift]) fun x K hK => ?_
  obtain ⟨A, hA⟩ : ∃ A, A = limbs a := ⟨_, rfl⟩
  have okA : OkL A := hA ▸ limbs_ok a
  have vA : val A = a := by rw [hA, val_limbs]
  rw [← hA] at ha
  have hmin : min (b : Int) 20000 = (b : Int) := by omega
  have hq : IntKind.i64.wrap ((b : Int).tdiv 32) = 0 := by
    have : (b : Int).tdiv 32 = 0 := by rw [Int.tdiv_eq_ediv_of_nonneg (by omega)]; omega
    rw [this]; rfl
  have hr : (b : Int).tmod 32 = (b : Int) := by rw [Int.tmod_eq_emod_of_nonneg (by omega)]; omega
  have hq' : (b : Int) / 32 = 0 := by omega
  have hz0 : IntKind.i64.wrap 0 = 0 := rfl
  have hr' : (b : Int) % 32 = (b : Int) := by omega
  have hw : IntKind.i64.wrap ((A.length : Int) + 1) = (A.length : Int) + 1 := wrap_i64 (by omega)
  have hw0 : IntKind.i64.wrap (A.length : Int) = (A.length : Int) := wrap_i64 (by omega)
  have hL1 : (A.length + 1) * 4 ≤ 281474976710656 := by omega
  have hL2 : A.length + 1 ≤ 9223372036854775807 := by omega
  have hL3 : (0 : Int) ≤ (A.length : Int) + 1 := by omega
  have hL4 : ((A.length : Int) + 1).toNat = A.length + 1 := by omega
  simp [c_shift, encNat, ← hA, hmin, hq, hq', hz0, hw, hw0, show ¬ ((b : Int) < 0) by omega, hL1, hL2, hL3, hL4]
  have hrep : List.replicate (A.length + 1) [PV.int .u32 0] = enc (List.replicate (A.length + 1) 0) := by simp [enc]
  have hp31 : 2 ^ b ≤ 2 ^ 31 := Nat.pow_le_pow_right (by decide) hb
  have hp1 : 0 < 2 ^ b := Nat.pow_pos (by decide)
  refine vc_loop .wide (shI A b) (fun y => y.1 ≤ A.length ∧ y.2.1 < 2 ^ b ∧ OkL y.2.2 ∧ y.2.2.length = y.1 ∧ val y.2.2 + y.2.1 * 4294967296 ^ y.1 = val (A.take y.1) * 2 ^ b) (fun y => A.length - y.1)
    ⟨0, 0, []⟩ ⟨by simp, hp1, by simp [OkL], rfl, by simp [val]⟩ (sub_iff (by simp [shI, shObj, hrep])) ?_
  rintro ⟨i, c, out⟩ ⟨h1, h2, h3, h4, h5⟩ Q k1 k2
  simp only at h1 h2 h3 h4 h5
  by_cases hi : i = A.length
  · subst hi
    have hc32 : c % 4294967296 = c := Nat.mod_eq_of_lt (by omega)
    have hok : OkL (out ++ [c]) := by
      intro d hd
      rcases List.mem_append.1 hd with hd | hd
      · exact h3 d hd
      · simp at hd; omega
    have hval : val (out ++ [c]) = a * 2 ^ b := by
      rw [val_append, h4, ← vA]
      rw [List.take_length] at h5
      simp only [val, Nat.mul_zero, Nat.add_zero]
      rw [Nat.mul_comm, h5]
    cases out with
    | nil =>
      simp [shI, shObj]
      refine k2 _ _ (by simp) ?_
      simp [hc32, maxLen_eq]
      refine oks_callz [53] .wide [.sl none 1 (enc [c]) []] (t_trim none [c] [] hok) (by simp) (by simp; rfl) (by simp [enc]) ?_
      rintro _ rfl
      refine oks_vc .wide ?_
      simp only [List.nil_append] at hval
      rw [hval]
      simp [encNat]
      exact hK _ _ rfl (by simp [encNat])
    | cons d r =>
      have b1 : (r.length + 1 + 1) * 4 ≤ 140737488355328 := by simp at h4; omega
      have b2 : r.length + 1 + 1 ≤ 9223372036854775807 := by simp at h4; omega
      simp [shI, shObj]
      refine k2 _ _ (by simp) ?_
      simp [hc32, maxLen_eq, b1, b2]
      refine oks_callz [53] .wide [.sl none 1 (enc (d :: r ++ [c])) []] (t_trim none (d :: r ++ [c]) [] hok) (by simp) (by simp; rfl) (by simp [enc]; rw [List.take_of_length_le (by simp), List.take_of_length_le (by simp)]) ?_
      rintro _ rfl
      refine oks_vc .wide ?_
      rw [hval]
      simp [encNat]
      exact hK _ _ rfl (by simp [encNat])
  · have hlt : i < A.length := by omega
    have hx : A[i] < 4294967296 := okA _ (List.getElem_mem hlt)
    have hxb : A[i] * 2 ^ b < 18446744073709551616 := by
      have := Nat.mul_le_mul (show A[i] ≤ 4294967295 by omega) hp31
      omega
    have e1 : A[i] % 18446744073709551616 = A[i] := Nat.mod_eq_of_lt (by omega)
    have e2 : A[i] * 2 ^ b % 18446744073709551616 = A[i] * 2 ^ b := Nat.mod_eq_of_lt hxb
    have e3 : c % 18446744073709551616 = c := Nat.mod_eq_of_lt (by omega)
    have e4 := or_shl A[i] c b h2
    have hsh := ev_shlv A[i] b hb
    have hwi : IntKind.i64.wrap ((i : Int) + 1) = (i : Int) + 1 := wrap_i64 (by omega)
    obtain ⟨s, hs⟩ : ∃ s, s = c + A[i] * 2 ^ b := ⟨_, rfl⟩
    have hs1 : s / 4294967296 < 2 ^ b := by
      have h7 : (A[i] + 1) * 2 ^ b ≤ 4294967296 * 2 ^ b := Nat.mul_le_mul_right _ hx
      rw [Nat.add_mul] at h7
      exact (Nat.div_lt_iff_lt_mul (by decide)).2 (by rw [Nat.mul_comm]; omega)
    have hnew : val (out ++ [s % 4294967296]) + s / 4294967296 * 4294967296 ^ (i + 1) = val (A.take (i + 1)) * 2 ^ b := by
      rw [val_append, h4, val_take_succ A i hlt, Nat.add_mul, ← h5, Nat.pow_succ]
      simp only [val, Nat.mul_zero, Nat.add_zero]
      exact sh_step _ _ _ _ _ hs
    have hok : OkL (out ++ [s % 4294967296]) := by
      intro d hd
      rcases List.mem_append.1 hd with hd | hd
      · exact h3 d hd
      · simp at hd; omega
    rw [← hs] at e4
    rw [e2] at hsh
    cases out with
    | nil =>
      simp [shI, shObj, hlt, hr, hr', e1, hsh, e2, e3, e4, maxLen_eq, hwi]
      refine k1 _ (i + 1, s / 4294967296, [s % 4294967296]) ⟨by omega, hs1, hok, by simp at h4 ⊢; omega, hnew⟩ (by simp only; omega) (sub_iff (by simp [shI, shObj, enc]))
    | cons d r =>
      have b1 : (r.length + 1 + 1) * 4 ≤ 140737488355328 := by simp at h4; omega
      have b2 : r.length + 1 + 1 ≤ 9223372036854775807 := by simp at h4; omega
      simp [shI, shObj, hlt, hr, hr', e1, hsh, e2, e3, e4, maxLen_eq, b1, b2, hwi]
      refine k1 _ (i + 1, s / 4294967296, d :: r ++ [s % 4294967296]) ⟨by omega, hs1, hok, by simp at h4 ⊢; omega, hnew⟩ (by simp only; omega) (sub_iff (by simp [shI, shObj, enc]; exact List.take_of_length_le (by simp)))

def dnObj : List Nat → DV × List (Nat × Ob)
  | [] => (.p (.sl (some true) 0 [] []), [])
  | d :: r => (.own 49 1 0 (d :: r).length (d :: r).length, [(49, ⟨false, 1, .p (enc (d :: r))⟩)])
def dnI (A : List Nat) (b : Nat) (y : Nat × List Nat) : St := ⟨52, [(7, .p (.int .i64 (y.1 : Int))), (6, (dnObj y.2).1), (4, .ptr 4 1 0 0), (2, .ptr 2 1 0 0), (1, .p (.int .i64 (b : Int)))], (4, ⟨false, 1, .p [[.sl (some true) 0 [] []]]⟩) :: (2, ⟨false, 1, .p [[.sl none 1 (enc A) []]]⟩) :: (dnObj y.2).2⟩

theorem dn_step (a b i : Nat) (hb : b ≤ 31) : (a / 4294967296 ^ (i + 1) % 4294967296 * 4294967296 + a / 4294967296 ^ i % 4294967296) / 2 ^ b % 4294967296 = a / 2 ^ b / 4294967296 ^ i % 4294967296 := by
  rw [Nat.div_div_eq_div_mul a, Nat.mul_comm (2 ^ b), ← Nat.div_div_eq_div_mul a]
  rw [Nat.pow_succ, ← Nat.div_div_eq_div_mul]
  generalize a / 4294967296 ^ i = u
  have h1 : u / 4294967296 % 4294967296 * 4294967296 + u % 4294967296 = u % 18446744073709551616 := by omega
  rw [h1]
  have e : (18446744073709551616 : Nat) = 2 ^ b * 2 ^ (64 - b) := by rw [← Nat.pow_add, show b + (64 - b) = 64 by omega]
  rw [e, Nat.mod_mul_right_div_self, Nat.mod_mod_of_dvd]
  exact ⟨2 ^ (32 - b), by rw [show (4294967296 : Nat) = 2 ^ 32 from rfl, ← Nat.pow_add, show 32 + (32 - b) = 64 - b by omega]⟩

theorem t_down (a b : Nat) (hb : b ≤ 31) (hb0 : 0 < b) (ha : (limbs a).length ≤ 1000000) : PCall Tryd.prog 124 [encNat a, .int .i64 (-(b : Int))] (· = encNat (a / 2 ^ b)) := by
  refine pcall_vcz c_down (by simp [c_down]) fun x K hK => ?_
  obtain ⟨A, hA⟩ : ∃ A, A = limbs a := ⟨_, rfl⟩
  rw [← hA] at ha
  have hm : IntKind.i64.wrap (-32 * (A.length : Int)) = -32 * (A.length : Int) := wrap_i64 (by omega)
  have hm' : IntKind.i64.wrap (-(32 * (A.length : Int))) = -32 * (A.length : Int) := by rw [wrap_i64 (by omega)]; omega
  by_cases hA0 : A.length = 0
  · have hAn : A = [] := List.eq_nil_of_length_eq_zero hA0
    have ha0 : a = 0 := limbs_len_zero.1 (by rw [← hA]; exact hA0)
    have hz0 : IntKind.i64.wrap 0 = 0 := rfl
    simp [c_down, encNat, ← hA, hAn, hb0, hz0, show -(b : Int) < 0 by omega]
    exact hK _ _ rfl (by simp [ha0, encNat, limbs_zero])
  · have hneg : IntKind.i64.wrap (0 - -(b : Int)) = (b : Int) := by rw [wrap_i64 (by omega)]; omega
    have hneg' : IntKind.i64.wrap (b : Int) = (b : Int) := wrap_i64 (by omega)
    have hq' : (b : Int) / 32 = 0 := by omega
    have hz0 : IntKind.i64.wrap 0 = 0 := rfl
    have hr : (b : Int).tmod 32 = (b : Int) := by rw [Int.tmod_eq_emod_of_nonneg (by omega)]; omega
    have hr' : (b : Int) % 32 = (b : Int) := by omega
    simp [c_down, encNat, ← hA, hm, hm', show ¬ (-(b : Int) < -32 * (A.length : Int)) by omega, show ¬ (-(b : Int) < -(32 * (A.length : Int))) by omega, hneg, hneg', hq', hz0]
    refine vc_loop .wide (dnI A b) (fun y => y.1 ≤ A.length ∧ OkL y.2 ∧ y.2.length = y.1 ∧ val y.2 = a / 2 ^ b % 4294967296 ^ y.1) (fun y => A.length - y.1)
      ⟨0, []⟩ ⟨by simp, by simp [OkL], rfl, by simp [val, Nat.mod_one]⟩ (sub_iff (by simp [dnI, dnObj])) ?_
    rintro ⟨i, out⟩ ⟨h1, h2, h3, h4⟩ Q k1 k2
    simp only at h1 h2 h3 h4
    by_cases hi : i = A.length
    · subst hi
      have hv : val out = a / 2 ^ b := by
        rw [h4]
        refine Nat.mod_eq_of_lt (Nat.lt_of_le_of_lt (Nat.div_le_self _ _) ?_)
        have := val_lt (limbs_ok a)
        rwa [val_limbs, ← hA] at this
      cases out with
      | nil => simp at h3; omega
      | cons d r =>
        simp [dnI, dnObj]
        refine k2 _ _ (by simp) ?_
        simp
        refine oks_callz [49] .wide [.sl none 1 (enc (d :: r)) []] (t_trim none (d :: r) [] h2) (by simp) (by simp; rfl) (by simp; exact List.take_of_length_le (by simp)) ?_
        rintro _ rfl
        refine oks_vc .wide ?_
        rw [hv]
        simp [encNat]
        exact hK _ _ rfl (by simp [encNat])
    · have hlt : i < A.length := by omega
      have hat := t_at a (i + 1)
      rw [digit_eq, show ((i + 1 : Nat) : Int) = (i : Int) + 1 by omega] at hat
      have hD0 : A[i] = a / 4294967296 ^ i % 4294967296 := by
        rw [← digit_eq, ← hA, List.getElem?_eq_getElem hlt]; rfl
      have hst := dn_step a b i hb
      rw [← hD0] at hst
      have hx : A[i] < 4294967296 := by rw [hD0]; exact Nat.mod_lt _ (by decide)
      have hy : a / 4294967296 ^ (i + 1) % 4294967296 < 4294967296 := Nat.mod_lt _ (by decide)
      generalize a / 4294967296 ^ (i + 1) % 4294967296 = y at hat hst hy
      have e1 : A[i] % 18446744073709551616 = A[i] := Nat.mod_eq_of_lt (by omega)
      have e2 : y % 18446744073709551616 = y := Nat.mod_eq_of_lt (by omega)
      have e3 : (y * 4294967296 % 18446744073709551616 ||| A[i]) = y * 4294967296 + A[i] := by
        rw [Nat.mod_eq_of_lt (a := y * 4294967296) (by omega)]
        exact or_limbs y A[i] hx
      have hsh := ev_shrv (y * 4294967296 + A[i]) b hb
      have hwi : IntKind.i64.wrap ((i : Int) + 1) = (i : Int) + 1 := wrap_i64 (by omega)
      have hnew : val (out ++ [(y * 4294967296 + A[i]) / 2 ^ b % 4294967296]) = a / 2 ^ b % 4294967296 ^ (i + 1) := by
        rw [val_append, h3, h4, hst, Nat.mod_pow_succ]
        simp only [val, Nat.mul_zero, Nat.add_zero]
      have hok : OkL (out ++ [(y * 4294967296 + A[i]) / 2 ^ b % 4294967296]) := by
        intro d hd
        rcases List.mem_append.1 hd with hd | hd
        · exact h2 d hd
        · simp at hd; omega
      generalize (y * 4294967296 + A[i]) / 2 ^ b = z at hsh hnew hok
      cases out with
      | nil =>
        simp [dnI, dnObj, hlt]
        refine vc_draw .wide rfl ?_
        simp [hwi]
        refine dcall_pz [encNat a, .int .i64 ((i : Int) + 1)] _ hat (by simp; rfl) (by simp [encNat, ← hA]) ?_
        simp [hlt, e1, e2, e3, hr, hr', hsh, maxLen_eq, hwi]
        refine k1 _ (i + 1, [z % 4294967296]) ⟨by omega, hok, by simp at h3 ⊢; omega, hnew⟩ (by simp only; omega) (sub_iff (by simp [dnI, dnObj, enc]))
      | cons d r =>
        have b1 : (r.length + 1 + 1) * 4 ≤ 140737488355328 := by simp at h3; omega
        have b2 : r.length + 1 + 1 ≤ 9223372036854775807 := by simp at h3; omega
        simp [dnI, dnObj, hlt]
        refine vc_draw .wide rfl ?_
        simp [hwi]
        refine dcall_pz [encNat a, .int .i64 ((i : Int) + 1)] _ hat (by simp; rfl) (by simp [encNat, ← hA]) ?_
        simp [hlt, e1, e2, e3, hr, hr', hsh, maxLen_eq, hwi, b1, b2]
        refine k1 _ (i + 1, d :: r ++ [z % 4294967296]) ⟨by omega, hok, by simp at h3 ⊢; omega, hnew⟩ (by simp only; omega) (sub_iff (by simp [dnI, dnObj, enc]; exact List.take_of_length_le (by simp)))
end Go.Dl
