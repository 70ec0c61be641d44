/- Contracts of hornbeam/nat: Shift and down by less than a limb. Contracts of hornbeam/nat: long. Contracts of hornbeam/nat: DivMod, Gcd. Contracts of hornbeam/rat. Contracts of hornbeam/rat: cross, Cmp, Parse. -/
import Derived.Test.YtjmhdfcmghmgjaaDoorA9
set_option linter.unusedVariables false
set_option linter.unusedSimpArgs false
set_option maxRecDepth 1000000
namespace Go.Dl
open Go.Proofs

theorem or_shl (x c by' : Nat) (h : c < 2 ^ by') : (c ||| x * 2 ^ by') = c + x * 2 ^ by' := by
  have := Nat.shiftLeft_add_eq_or_of_lt (i := by') h x
  rw [Nat.shiftLeft_eq] at this
  rw [Nat.or_comm, ← this, Nat.add_comm]
theorem ev_shlv (a b : Nat) (hb : b ≤ 31) : evBin .shl (.int .u64 (U a)) (.int .i64 (b : Int)) = some (.int .u64 (U (a * 2 ^ b % 18446744073709551616))) := by
  simp only [evBin, IntKind.wrap_u64]
  rw [if_neg (by omega)]
  have e : min ((b : Int).toNat) IntKind.u64.bits = b := by
    have : IntKind.u64.bits = 64 := rfl
    rw [this]; omega
  rw [e]; unfold U; congr 2
theorem ev_shrv (a b : Nat) (hb : b ≤ 31) : evBin .shr (.int .u64 (U a)) (.int .i64 (b : Int)) = some (.int .u64 (U (a / 2 ^ b))) := by
  simp only [evBin]
  rw [if_neg (by omega)]
  have e : min ((b : Int).toNat) IntKind.u64.bits = b := by
    have : IntKind.u64.bits = 64 := rfl
    rw [this]; omega
  rw [e]; unfold U; congr 2
  rw [Int.fdiv_eq_ediv_of_nonneg _ (Int.pow_nonneg (by decide))]
  rfl

theorem sh_step {W : Nat} (v c x P p : Nat) {s : Nat} (hs : s = c + x * p) : v + P * (s % W) + s / W * (P * W) = v + c * P + P * x * p := by
  have h1 := congrArg (P * ·) (Nat.div_add_mod s W)
  simp only [Nat.mul_add] at h1
  have e1 : s / W * (P * W) = P * (W * (s / W)) := by rw [Nat.mul_comm (s / W), Nat.mul_assoc]
  have e2 : P * s = c * P + P * x * p := by rw [hs, Nat.mul_add, Nat.mul_comm P c, Nat.mul_assoc]
  rw [e1]
  omega
def shObj (L : Nat) : List Nat → DV × List (Nat × Ob)
  | [] => (.own 25 1 0 0 (L + 1), [(25, ⟨false, 1, .p (enc (List.replicate (L + 1) 0))⟩)])
  | d :: r => (.own 45 1 0 (d :: r).length (d :: r).length, [(45, ⟨false, 1, .p (enc (d :: r))⟩)])
def shI (A : List Nat) (b : Nat) (y : Nat × Nat × List Nat) : St := ⟨55, [(29, .p (.int .i64 (y.1 : Int))), (28, .p (.int .i64 (A.length : Int))), (27, .p (.sl none 1 (enc A) [])), (6, .p (.int .u64 (U y.2.1))), (5, (shObj A.length y.2.2).1), (4, .ptr 4 1 0 0), (1, .p (.int .i64 (b : Int)))], (4, ⟨false, 1, .p [[.sl (some true) 0 [] []]]⟩) :: (shObj A.length y.2.2).2⟩

theorem t_shift (a b : Nat) (hb : b ≤ 31) (ha : (limbs a).length ≤ 1000000) : PCall Tryd.prog 117 [encNat a, .int .i64 (b : Int)] (· = encNat (a * 2 ^ b)) := by
  refine pcall_vcz c_shift (by simp [c_shift]) fun x K hK => ?_
  obtain ⟨A, hA⟩ : ∃ A, A = limbs a := ⟨_, rfl⟩
  have okA : OkL A := hA ▸ limbs_ok a
  have vA : val A = a := by rw [hA, val_limbs]
  rw [← hA] at ha
  have hmin : min (b : Int) 20000 = (b : Int) := by omega
  have hq : IntKind.i64.wrap ((b : Int).tdiv 32) = 0 := by
    have : (b : Int).tdiv 32 = 0 := by rw [Int.tdiv_eq_ediv_of_nonneg (by omega)]; omega
    rw [this]; rfl
  have hr : (b : Int).tmod 32 = (b : Int) := by rw [Int.tmod_eq_emod_of_nonneg (by omega)]; omega
  have hq' : (b : Int) / 32 = 0 := by omega
  have hz0 : IntKind.i64.wrap 0 = 0 := rfl
  have hr' : (b : Int) % 32 = (b : Int) := by omega
  have hw : IntKind.i64.wrap ((A.length : Int) + 1) = (A.length : Int) + 1 := wrap_i64 (by omega)
  have hw0 : IntKind.i64.wrap (A.length : Int) = (A.length : Int) := wrap_i64 (by omega)
  have hL1 : (A.length + 1) * 4 ≤ 281474976710656 := by omega
  have hL2 : A.length + 1 ≤ 9223372036854775807 := by omega
  have hL3 : (0 : Int) ≤ (A.length : Int) + 1 := by omega
  have hL4 : ((A.length : Int) + 1).toNat = A.length + 1 := by omega
  simp [c_shift, encNat, ← hA, hmin, hq, hq', hz0, hw, hw0, show ¬ ((b : Int) < 0) by omega, hL1, hL2, hL3, hL4]
  have hrep : List.replicate (A.length + 1) [PV.int .u32 0] = enc (List.replicate (A.length + 1) 0) := by simp [enc]
  have hp31 : 2 ^ b ≤ 2 ^ 31 := Nat.pow_le_pow_right (by decide) hb
  have hp1 : 0 < 2 ^ b := Nat.pow_pos (by decide)
  refine vc_loop .wide (shI A b) (fun y => y.1 ≤ A.length ∧ y.2.1 < 2 ^ b ∧ OkL y.2.2 ∧ y.2.2.length = y.1 ∧ val y.2.2 + y.2.1 * 4294967296 ^ y.1 = val (A.take y.1) * 2 ^ b) (fun y => A.length - y.1)
    ⟨0, 0, []⟩ ⟨by simp, hp1, by simp [OkL], rfl, by simp [val]⟩ (sub_iff (by simp [shI, shObj, hrep])) ?_
  rintro ⟨i, c, out⟩ ⟨h1, h2, h3, h4, h5⟩ Q k1 k2
  simp only at h1 h2 h3 h4 h5
  by_cases hi : i = A.length
  · subst hi
    have hc32 : c % 4294967296 = c := Nat.mod_eq_of_lt (by omega)
    have hok : OkL (out ++ [c]) := by
      intro d hd
      rcases List.mem_append.1 hd with hd | hd
      · exact h3 d hd
      · simp at hd; omega
    have hval : val (out ++ [c]) = a * 2 ^ b := by
      rw [val_append, h4, ← vA]
      rw [List.take_length] at h5
      simp only [val, Nat.mul_zero, Nat.add_zero]
      rw [Nat.mul_comm, h5]
    cases out with
    | nil =>
      simp [shI, shObj]
      refine k2 _ _ (by simp) ?_
      simp [hc32, maxLen_eq]
      refine oks_callz [53] .wide [.sl none 1 (enc [c]) []] (t_trim none [c] [] hok) (by simp) (by simp; rfl) (by simp [enc]) ?_
      rintro _ rfl
      refine oks_vc .wide ?_
      simp only [List.nil_append] at hval
      rw [hval]
      simp [encNat]
      exact hK _ _ rfl (by simp [encNat])
    | cons d r =>
      have b1 : (r.length + 1 + 1) * 4 ≤ 140737488355328 := by simp at h4; omega
      have b2 : r.length + 1 + 1 ≤ 9223372036854775807 := by simp at h4; omega
      simp [shI, shObj]
      refine k2 _ _ (by simp) ?_
      simp [hc32, maxLen_eq, b1, b2]
      refine oks_callz [53] .wide [.sl none 1 (enc (d :: r ++ [c])) []] (t_trim none (d :: r ++ [c]) [] hok) (by simp) (by simp; rfl) (by simp [enc]; rw [List.take_of_length_le (by simp), List.take_of_length_le (by simp)]) ?_
      rintro _ rfl
      refine oks_vc .wide ?_
      rw [hval]
      simp [encNat]
      exact hK _ _ rfl (by simp [encNat])
  · have hlt : i < A.length := by omega
    have hx : A[i] < 4294967296 := okA _ (List.getElem_mem hlt)
    have hxb : A[i] * 2 ^ b < 18446744073709551616 := by
      have := Nat.mul_le_mul (show A[i] ≤ 4294967295 by omega) hp31
      omega
    have e1 : A[i] % 18446744073709551616 = A[i] := Nat.mod_eq_of_lt (by omega)
    have e2 : A[i] * 2 ^ b % 18446744073709551616 = A[i] * 2 ^ b := Nat.mod_eq_of_lt hxb
    have e3 : c % 18446744073709551616 = c := Nat.mod_eq_of_lt (by omega)
    have e4 := or_shl A[i] c b h2
    have hsh := ev_shlv A[i] b hb
    have hwi : IntKind.i64.wrap ((i : Int) + 1) = (i : Int) + 1 := wrap_i64 (by omega)
    obtain ⟨s, hs⟩ : ∃ s, s = c + A[i] * 2 ^ b := ⟨_, rfl⟩
    have hs1 : s / 4294967296 < 2 ^ b := by
      have h7 : (A[i] + 1) * 2 ^ b ≤ 4294967296 * 2 ^ b := Nat.mul_le_mul_right _ hx
      rw [Nat.add_mul] at h7
      exact (Nat.div_lt_iff_lt_mul (by decide)).2 (by rw [Nat.mul_comm]; omega)
    have hnew : val (out ++ [s % 4294967296]) + s / 4294967296 * 4294967296 ^ (i + 1) = val (A.take (i + 1)) * 2 ^ b := by
      rw [val_append, h4, val_take_succ A i hlt, Nat.add_mul, ← h5, Nat.pow_succ]
      simp only [val, Nat.mul_zero, Nat.add_zero]
      exact sh_step _ _ _ _ _ hs
    have hok : OkL (out ++ [s % 4294967296]) := by
      intro d hd
      rcases List.mem_append.1 hd with hd | hd
      · exact h3 d hd
      · simp at hd; omega
    rw [← hs] at e4
    rw [e2] at hsh
    cases out with
    | nil =>
      simp [shI, shObj, hlt, hr, hr', e1, hsh, e2, e3, e4, maxLen_eq, hwi]
      refine k1 _ (i + 1, s / 4294967296, [s % 4294967296]) ⟨by omega, hs1, hok, by simp at h4 ⊢; omega, hnew⟩ (by simp only; omega) (sub_iff (by simp [shI, shObj, enc]))
    | cons d r =>
      have b1 : (r.length + 1 + 1) * 4 ≤ 140737488355328 := by simp at h4; omega
      have b2 : r.length + 1 + 1 ≤ 9223372036854775807 := by simp at h4; omega
      simp [shI, shObj, hlt, hr, hr', e1, hsh, e2, e3, e4, maxLen_eq, b1, b2, hwi]
      refine k1 _ (i + 1, s / 4294967296, d :: r ++ [s % 4294967296]) ⟨by omega, hs1, hok, by simp at h4 ⊢; omega, hnew⟩ (by simp only; omega) (sub_iff (by simp [shI, shObj, enc]; exact List.take_of_length_le (by simp)))

def dnObj : List Nat → DV × List (Nat × Ob)
  | [] => (.p (.sl (some true) 0 [] []), [])
  | d :: r => (.own 49 1 0 (d :: r).length (d :: r).length, [(49, ⟨false, 1, .p (enc (d :: r))⟩)])
def dnI (A : List Nat) (b : Nat) (y : Nat × List Nat) : St := ⟨52, [(7, .p (.int .i64 (y.1 : Int))), (6, (dnObj y.2).1), (4, .ptr 4 1 0 0), (2, .ptr 2 1 0 0), (1, .p (.int .i64 (b : Int)))], (4, ⟨false, 1, .p [[.sl (some true) 0 [] []]]⟩) :: (2, ⟨false, 1, .p [[.sl none 1 (enc A) []]]⟩) :: (dnObj y.2).2⟩

theorem dn_step (a b i : Nat) (hb : b ≤ 31) : (a / 4294967296 ^ (i + 1) % 4294967296 * 4294967296 + a / 4294967296 ^ i % 4294967296) / 2 ^ b % 4294967296 = a / 2 ^ b / 4294967296 ^ i % 4294967296 := by
  rw [Nat.div_div_eq_div_mul a, Nat.mul_comm (2 ^ b), ← Nat.div_div_eq_div_mul a]
  rw [Nat.pow_succ, ← Nat.div_div_eq_div_mul]
  generalize a / 4294967296 ^ i = u
  have h1 : u / 4294967296 % 4294967296 * 4294967296 + u % 4294967296 = u % 18446744073709551616 := by omega
  rw [h1]
  have e : (18446744073709551616 : Nat) = 2 ^ b * 2 ^ (64 - b) := by rw [← Nat.pow_add, show b + (64 - b) = 64 by omega]
  rw [e, Nat.mod_mul_right_div_self, Nat.mod_mod_of_dvd]
  exact ⟨2 ^ (32 - b), by rw [show (4294967296 : Nat) = 2 ^ 32 from rfl, ← Nat.pow_add, show 32 + (32 - b) = 64 - b by omega]⟩

theorem t_down (a b : Nat) (hb : b ≤ 31) (hb0 : 0 < b) (ha : (limbs a).length ≤ 1000000) : PCall Tryd.prog 124 [encNat a, .int .i64 (-(b : Int))] (· = encNat (a / 2 ^ b)) := by
  refine pcall_vcz c_down (by simp [c_down]) fun x K hK => ?_
  obtain ⟨A, hA⟩ : ∃ A, A = limbs a := ⟨_, rfl⟩
  rw [← hA] at ha
  have hm : IntKind.i64.wrap (-32 * (A.length : Int)) = -32 * (A.length : Int) := wrap_i64 (by omega)
  have hm' : IntKind.i64.wrap (-(32 * (A.length : Int))) = -32 * (A.length : Int) := by rw [wrap_i64 (by omega)]; omega
  by_cases hA0 : A.length = 0
  · have hAn : A = [] := List.eq_nil_of_length_eq_zero hA0
    have ha0 : a = 0 := limbs_len_zero.1 (by rw [← hA]; exact hA0)
    have hz0 : IntKind.i64.wrap 0 = 0 := rfl
    simp [c_down, encNat, ← hA, hAn, hb0, hz0, show -(b : Int) < 0 by omega]
    exact hK _ _ rfl (by simp [ha0, encNat, limbs_zero])
  · have hneg : IntKind.i64.wrap (0 - -(b : Int)) = (b : Int) := by rw [wrap_i64 (by omega)]; omega
    have hneg' : IntKind.i64.wrap (b : Int) = (b : Int) := wrap_i64 (by omega)
    have hq' : (b : Int) / 32 = 0 := by omega
    have hz0 : IntKind.i64.wrap 0 = 0 := rfl
    have hr : (b : Int).tmod 32 = (b : Int) := by rw [Int.tmod_eq_emod_of_nonneg (by omega)]; omega
    have hr' : (b : Int) % 32 = (b : Int) := by omega
    simp [c_down, encNat, ← hA, hm, hm', show ¬ (-(b : Int) < -32 * (A.length : Int)) by omega, show ¬ (-(b : Int) < -(32 * (A.length : Int))) by omega, hneg, hneg', hq', hz0]
    refine vc_loop .wide (dnI A b) (fun y => y.1 ≤ A.length ∧ OkL y.2 ∧ y.2.length = y.1 ∧ val y.2 = a / 2 ^ b % 4294967296 ^ y.1) (fun y => A.length - y.1)
      ⟨0, []⟩ ⟨by simp, by simp [OkL], rfl, by simp [val, Nat.mod_one]⟩ (sub_iff (by simp [dnI, dnObj])) ?_
    rintro ⟨i, out⟩ ⟨h1, h2, h3, h4⟩ Q k1 k2
    simp only at h1 h2 h3 h4
    by_cases hi : i = A.length
    · subst hi
      have hv : val out = a / 2 ^ b := by
        rw [h4]
        refine Nat.mod_eq_of_lt (Nat.lt_of_le_of_lt (Nat.div_le_self _ _) ?_)
        have := val_lt (limbs_ok a)
        rwa [val_limbs, ← hA] at this
      cases out with
      | nil => simp at h3; omega
      | cons d r =>
        simp [dnI, dnObj]
        refine k2 _ _ (by simp) ?_
        simp
        refine oks_callz [49] .wide [.sl none 1 (enc (d :: r)) []] (t_trim none (d :: r) [] h2) (by simp) (by simp; rfl) (by simp; exact List.take_of_length_le (by simp)) ?_
        rintro _ rfl
        refine oks_vc .wide ?_
        rw [hv]
        simp [encNat]
        exact hK _ _ rfl (by simp [encNat])
    · have hlt : i < A.length := by omega
      have hat := t_at a (i + 1)
      rw [digit_eq, show ((i + 1 : Nat) : Int) = (i : Int) + 1 by omega] at hat
      have hD0 : A[i] = a / 4294967296 ^ i % 4294967296 := by
        rw [← digit_eq, ← hA, List.getElem?_eq_getElem hlt]; rfl
      have hst := dn_step a b i hb
      rw [← hD0] at hst
      have hx : A[i] < 4294967296 := by rw [hD0]; exact Nat.mod_lt _ (by decide)
      have hy : a / 4294967296 ^ (i + 1) % 4294967296 < 4294967296 := Nat.mod_lt _ (by decide)
      generalize a / 4294967296 ^ (i + 1) % 4294967296 = y at hat hst hy
      have e1 : A[i] % 18446744073709551616 = A[i] := Nat.mod_eq_of_lt (by omega)
      have e2 : y % 18446744073709551616 = y := Nat.mod_eq_of_lt (by omega)
      have e3 : (y * 4294967296 % 18446744073709551616 ||| A[i]) = y * 4294967296 + A[i] := by
        rw [Nat.mod_eq_of_lt (a := y * 4294967296) (by omega)]
        exact or_limbs y A[i] hx
      have hsh := ev_shrv (y * 4294967296 + A[i]) b hb
      have hwi : IntKind.i64.wrap ((i : Int) + 1) = (i : Int) + 1 := wrap_i64 (by omega)
      have hnew : val (out ++ [(y * 4294967296 + A[i]) / 2 ^ b % 4294967296]) = a / 2 ^ b % 4294967296 ^ (i + 1) := by
        rw [val_append, h3, h4, hst, Nat.mod_pow_succ]
        simp only [val, Nat.mul_zero, Nat.add_zero]
      have hok : OkL (out ++ [(y * 4294967296 + A[i]) / 2 ^ b % 4294967296]) := by
        intro d hd
        rcases List.mem_append.1 hd with hd | hd
        · exact h2 d hd
        · simp at hd; omega
      generalize (y * 4294967296 + A[i]) / 2 ^ b = z at hsh hnew hok
      cases out with
      | nil =>
        simp [dnI, dnObj, hlt]
        refine vc_draw .wide rfl ?_
        simp [hwi]
        refine dcall_pz [encNat a, .int .i64 ((i : Int) + 1)] _ hat (by simp; rfl) (by simp [encNat, ← hA]) ?_
        simp [hlt, e1, e2, e3, hr, hr', hsh, maxLen_eq, hwi]
        refine k1 _ (i + 1, [z % 4294967296]) ⟨by omega, hok, by simp at h3 ⊢; omega, hnew⟩ (by simp only; omega) (sub_iff (by simp [dnI, dnObj, enc]))
      | cons d r =>
        have b1 : (r.length + 1 + 1) * 4 ≤ 140737488355328 := by simp at h3; omega
        have b2 : r.length + 1 + 1 ≤ 9223372036854775807 := by simp at h3; omega
        simp [dnI, dnObj, hlt]
        refine vc_draw .wide rfl ?_
        simp [hwi]
        refine dcall_pz [encNat a, .int .i64 ((i : Int) + 1)] _ hat (by simp; rfl) (by simp [encNat, ← hA]) ?_
        simp [hlt, e1, e2, e3, hr, hr', hsh, maxLen_eq, hwi, b1, b2]
        refine k1 _ (i + 1, d :: r ++ [z % 4294967296]) ⟨by omega, hok, by simp at h3 ⊢; omega, hnew⟩ (by simp only; omega) (sub_iff (by simp [dnI, dnObj, enc]; exact List.take_of_length_le (by simp)))
end Go.Dl
set_option linter.unusedVariables false
set_option linter.unusedSimpArgs false
set_option maxRecDepth 1000000
namespace Go.Dl
open Go.Proofs

theorem t_shiftn (a b : Nat) (hb : b ≤ 31) (ha : (limbs a).length ≤ 1000000) : PCall Tryd.prog 117 [encNat a, .int .i64 (-(b : Int))] (· = encNat (a / 2 ^ b)) := by
  by_cases h0 : b = 0
  · subst h0
    have := t_shift a 0 (by omega) ha
    simpa using this
  · refine pcall_vcz c_shift (by simp [c_shift]) fun x K hK => ?_
    simp [c_shift, encNat, show 0 < b by omega]
    refine oks_callz [] .wide [encNat a, .int .i64 (-(b : Int))] (t_down a b hb (by omega) ha) (by simp) (by simp; rfl) (by simp [encNat]) ?_
    rintro _ rfl
    refine oks_vc .wide ?_
    simp [encNat]
    exact hK _ _ rfl (by simp [encNat])

theorem limbs_len (x k : Nat) (h1 : 4294967296 ^ k ≤ x) (h2 : x < 4294967296 ^ (k + 1)) : (limbs x).length = k + 1 := by
  have h3 := val_lt (limbs_ok x)
  rw [val_limbs] at h3
  have h4 : k < (limbs x).length := (Nat.pow_lt_pow_iff_right (by decide : 1 < 4294967296)).1 (Nat.lt_of_le_of_lt h1 h3)
  rcases Nat.lt_or_ge (k + 1) (limbs x).length with h5 | h5
  · exfalso
    obtain ⟨j, hj⟩ : ∃ j, (limbs x).length = j + 1 := ⟨(limbs x).length - 1, by omega⟩
    have h6 := limbs_top x j hj
    have h7 := digit_eq x j
    have h8 : x / 4294967296 ^ j = 0 := Nat.div_eq_of_lt (Nat.lt_of_lt_of_le h2 (Nat.pow_le_pow_right (by decide) (by omega)))
    rw [h8, Nat.zero_mod] at h7
    rw [List.getElem?_eq_getElem (by omega)] at h6 h7
    exact h6 (by rw [← h7]; rfl)
  · omega
theorem limbs_ge (x k : Nat) (h : (limbs x).length = k + 1) : 4294967296 ^ k ≤ x := by
  refine Nat.le_of_not_lt fun h1 => ?_
  have h6 := limbs_top x k h
  have h7 := digit_eq x k
  rw [Nat.div_eq_of_lt h1, Nat.zero_mod] at h7
  rw [List.getElem?_eq_getElem (by omega)] at h6 h7
  exact h6 (by rw [← h7]; rfl)
theorem limbs_lt (x : Nat) : x < 4294967296 ^ (limbs x).length := by
  have := val_lt (limbs_ok x)
  rwa [val_limbs] at this

/-- the divisor, shifted -/
theorem norm_div (b k d : Nat) (hl : (limbs b).length = k + 1) (hd : (limbs b)[k]? = some d) : lz d ≤ 31 ∧ (limbs (b * 2 ^ lz d)).length = k + 1 ∧ 4294967296 ^ k * 2 ^ lz d ≤ b * 2 ^ lz d ∧ ∃ t, (limbs (b * 2 ^ lz d))[k]? = some t ∧ 2147483648 ≤ t := by
  have hd0 : d ≠ 0 := fun e => limbs_top b k hl (by rw [hd, e])
  have hdW := limbs_ok b d (List.mem_of_getElem? hd)
  obtain ⟨h1, h2, h3⟩ := lz_spec d hd0 hdW
  have hdiv : b / 4294967296 ^ k = d := by
    have h4 := digit_eq b k
    rw [hd] at h4
    have h5 := limbs_lt b
    rw [hl, Nat.pow_succ] at h5
    have h6 : b / 4294967296 ^ k < 4294967296 := (Nat.div_lt_iff_lt_mul (Nat.pow_pos (by decide))).2 (by rw [Nat.mul_comm]; exact h5)
    rw [Nat.mod_eq_of_lt h6] at h4
    exact h4.symm
  have hP : 0 < 4294967296 ^ k := Nat.pow_pos (by decide)
  have hge := limbs_ge b k hl
  have hlo : 4294967296 ^ k * d ≤ b := by rw [← hdiv]; exact Nat.mul_div_le _ _
  have hhi : b < 4294967296 ^ k * (d + 1) := by
    have := Nat.lt_mul_div_succ b hP
    rwa [hdiv] at this
  have hx1 : 4294967296 ^ k * 2147483648 ≤ b * 2 ^ lz d := by
    have e1 : 4294967296 ^ k * (d * 2 ^ lz d) ≤ b * 2 ^ lz d := by rw [← Nat.mul_assoc]; exact Nat.mul_le_mul_right _ hlo
    exact Nat.le_trans (Nat.mul_le_mul_left _ h2) e1
  have hx2 : b * 2 ^ lz d < 4294967296 ^ (k + 1) := by
    have e1 : b * 2 ^ lz d < 4294967296 ^ k * (d + 1) * 2 ^ lz d := Nat.mul_lt_mul_of_pos_right hhi (Nat.pow_pos (by decide))
    have e2 : (d + 1) * 2 ^ lz d ≤ 4294967296 := by
      have : (4294967296 : Nat) = 2 ^ (32 - lz d) * 2 ^ lz d := by rw [← Nat.pow_add, show 32 - lz d + lz d = 32 by omega]
      rw [this] at h3 ⊢
      exact Nat.mul_le_mul_right _ (Nat.lt_of_mul_lt_mul_right h3)
    rw [Nat.mul_assoc] at e1
    rw [Nat.pow_succ]
    exact Nat.lt_of_lt_of_le e1 (Nat.mul_le_mul_left _ e2)
  have hlen := limbs_len (b * 2 ^ lz d) k (Nat.le_trans (Nat.le_mul_of_pos_right _ (by decide)) hx1) hx2
  refine ⟨h1, hlen, Nat.mul_le_mul_right _ hge, (limbs (b * 2 ^ lz d))[k], List.getElem?_eq_getElem _, ?_⟩
  have h4 := digit_eq (b * 2 ^ lz d) k
  rw [List.getElem?_eq_getElem (by omega)] at h4
  simp only [Option.getD_some] at h4
  rw [h4]
  have h6 : b * 2 ^ lz d / 4294967296 ^ k < 4294967296 := (Nat.div_lt_iff_lt_mul hP).2 (by rw [Nat.mul_comm 4294967296 (4294967296 ^ k), ← Nat.pow_succ]; exact hx2)
  rw [Nat.mod_eq_of_lt h6]
  exact (Nat.le_div_iff_mul_le hP).2 (by rw [Nat.mul_comm]; exact hx1)

/-- one digit of a long division: U is what is left -/
structure LongAt (X V : Nat) (j : Nat) (Q U : List Nat) : Prop where
  okQ : OkL Q
  okU : OkL U
  eq : X = val (Q.drop j) * V * 4294967296 ^ j + val U
  low : val (U.drop j) < V

theorem val_split (l : List Nat) (j : Nat) (h : j ≤ l.length) : val l = val (l.take j) + 4294967296 ^ j * val (l.drop j) := by
  conv => lhs; rw [← List.take_append_drop j l, val_append, List.length_take, Nat.min_eq_left h]

theorem long_mid {X V m j : Nat} {Q U : List Nat} (h : LongAt X V (j + 1) Q U) (hV : V < 4294967296 ^ m) (hlen : j + m + 1 ≤ U.length) :
    val ((U.drop j).take (m + 1)) < 4294967296 * V ∧ val (U.drop (j + (m + 1))) = 0 := by
  have hj : j < U.length := by omega
  have h1 : val (U.drop j) < 4294967296 * V := by
    rw [List.drop_eq_getElem_cons hj, val]
    have := h.okU _ (List.getElem_mem hj)
    have := h.low
    omega
  have h2 := val_split (U.drop j) (m + 1) (by simp; omega)
  rw [List.drop_drop] at h2
  have hz : val (U.drop (j + (m + 1))) = 0 := by
    rcases Nat.eq_zero_or_pos (val (U.drop (j + (m + 1)))) with h3 | h3
    · exact h3
    · exfalso
      have h4 : 4294967296 * V ≤ 4294967296 ^ (m + 1) := by rw [Nat.pow_succ, Nat.mul_comm]; exact Nat.mul_le_mul_right _ (Nat.le_of_lt hV)
      have h5 := Nat.le_mul_of_pos_right (4294967296 ^ (m + 1)) h3
      omega
  refine ⟨?_, hz⟩
  rw [hz, Nat.mul_zero, Nat.add_zero] at h2
  omega

theorem long_alg {W : Nat} (q V P t M : Nat) : q * V * (P * W) + (t + P * M) = (M / V + W * q) * V * P + (t + P * (M % V)) := by
  have h := congrArg (P * ·) (Nat.div_add_mod M V)
  simp only [Nat.mul_add] at h
  have e1 : (M / V + W * q) * V * P = P * (V * (M / V)) + q * V * (P * W) := by
    rw [Nat.add_mul, Nat.add_mul, Nat.mul_comm (M / V), Nat.mul_comm (V * (M / V))]
    congr 1
    rw [Nat.mul_comm W q, Nat.mul_comm P W, ← Nat.mul_assoc, Nat.mul_right_comm q W V]
  rw [e1]
  omega
theorem long_step {X V m j : Nat} {Q U M : List Nat} (h : LongAt X V (j + 1) Q U) (hV : V < 4294967296 ^ m) (hV0 : 0 < V) (hlen : j + m + 1 ≤ U.length) (hj : j < Q.length) (hM : M.length = m + 1) (okM : OkL M)
    (hval : val M = val ((U.drop j).take (m + 1)) % V) (hq : val ((U.drop j).take (m + 1)) / V < 4294967296) :
    LongAt X V j (Q.set j (val ((U.drop j).take (m + 1)) / V)) (U.take j ++ (M ++ U.drop (j + (m + 1)))) := by
  obtain ⟨h1, hz⟩ := long_mid h hV hlen
  have hjU : j ≤ U.length := by omega
  have e1 := val_split U j hjU
  have e2 := val_split (U.drop j) (m + 1) (by simp; omega)
  rw [List.drop_drop, hz, Nat.mul_zero, Nat.add_zero] at e2
  rw [e2] at e1
  have e3 : val (M ++ U.drop (j + (m + 1))) = val M := by rw [val_append, hz, Nat.mul_zero, Nat.add_zero]
  have hdrop : (U.take j ++ (M ++ U.drop (j + (m + 1)))).drop j = M ++ U.drop (j + (m + 1)) := by
    rw [List.drop_append_of_le_length (by simp; omega)]
    simp [List.drop_take]
  refine ⟨set_ok h.okQ hq, ?_, ?_, ?_⟩
  · intro d hd
    rcases List.mem_append.1 hd with hd | hd
    · exact h.okU d (List.mem_of_mem_take hd)
    · rcases List.mem_append.1 hd with hd | hd
      · exact okM d hd
      · exact h.okU d (List.mem_of_mem_drop hd)
  · have hQ : (Q.set j (val ((U.drop j).take (m + 1)) / V)).drop j = (val ((U.drop j).take (m + 1)) / V) :: Q.drop (j + 1) := by
      rw [List.drop_eq_getElem_cons (by simpa using hj)]
      simp [List.drop_set]
    rw [hQ, val, val_append, e3, List.length_take, Nat.min_eq_left hjU, hval]
    have h2 := h.eq
    rw [e1, Nat.pow_succ] at h2
    rw [h2]
    exact long_alg _ _ _ _ _
  · rw [hdrop, e3, hval]
    exact Nat.mod_lt _ hV0

def lgk (f : Bool) : Nat := if f then 37 else 28
def lgI (A : List Nat) (vL : List Nat) (sh : Nat) (y : Bool × List Nat) : St := ⟨71, [(8, .own (lgk y.1) 1 0 y.2.length y.2.length), (7, .p (.sl none 1 (enc vL) [])), (6, .p (.int .i64 (sh : Int))), (5, .ptr 5 1 0 0), (4, .ptr 4 1 0 0), (2, .ptr 2 1 0 0)],
  [(lgk y.1, ⟨false, 1, .p (enc y.2)⟩), (5, ⟨false, 1, .p [[.sl (some true) 0 [] []]]⟩), (4, ⟨false, 1, .p [[.sl (some true) 0 [] []]]⟩), (2, ⟨false, 1, .p [[.sl none 1 (enc A) []]]⟩)]⟩

theorem limbs_len_le {U : List Nat} (h : OkL U) : (limbs (val U)).length ≤ U.length := by
  rcases Nat.eq_zero_or_pos (limbs (val U)).length with h0 | h0
  · omega
  · obtain ⟨k, hk⟩ : ∃ k, (limbs (val U)).length = k + 1 := ⟨(limbs (val U)).length - 1, by omega⟩
    have h1 := limbs_ge _ k hk
    have h2 := val_lt h
    have := (Nat.pow_lt_pow_iff_right (by decide : 1 < 4294967296)).1 (Nat.lt_of_le_of_lt h1 h2)
    omega
theorem long_end {a b p : Nat} {Q U : List Nat} (hp : 0 < p) (hb : 0 < b) (h : LongAt (a * p) (b * p) 0 Q U) : val Q = a / b ∧ val U / p = a % b := by
  have h1 := h.eq
  have h2 := h.low
  rw [List.drop_zero] at h1 h2
  rw [Nat.pow_zero, Nat.mul_one] at h1
  have hV : 0 < b * p := Nat.mul_pos hb hp
  have e1 : val Q = a * p / (b * p) := by
    rw [h1, Nat.add_comm, Nat.add_mul_div_right _ _ hV, Nat.div_eq_of_lt h2, Nat.zero_add]
  have e2 : val U = a * p % (b * p) := by
    rw [h1, Nat.add_comm, Nat.add_mul_mod_self_right, Nat.mod_eq_of_lt h2]
  rw [Nat.mul_div_mul_right _ _ hp] at e1
  rw [Nat.mul_mod_mul_right] at e2
  exact ⟨e1, by rw [e2, Nat.mul_div_cancel _ hp]⟩

def lgJ (vL : List Nat) (sh k N L : Nat) (y : Nat × List Nat × List Nat) : St := ⟨71, [(10, .p (.int .i64 ((y.1 : Int) - 1))), (9, .own 43 1 0 N N), (8, .own k 1 0 (L + 2) (L + 2)), (7, .p (.sl none 1 (enc vL) [])), (6, .p (.int .i64 (sh : Int))), (5, .ptr 5 1 0 0), (4, .ptr 4 1 0 0)],
  [(43, ⟨false, 1, .p (enc y.2.1)⟩), (k, ⟨false, 1, .p (enc y.2.2)⟩), (5, ⟨false, 1, .p [[.sl (some true) 0 [] []]]⟩), (4, ⟨false, 1, .p [[.sl (some true) 0 [] []]]⟩)]⟩

set_option maxHeartbeats 2000000 in
theorem t_long (a b n : Nat) (hb : (limbs b).length = n + 2) (hab : b ≤ a) (ha : (limbs a).length ≤ 800000) : PCall Tryd.prog 106 [encNat a, encNat b] (· = .tup [encNat (a / b), encNat (a % b)]) := by
  obtain ⟨A, hA⟩ : ∃ A, A = limbs a := ⟨_, rfl⟩
  obtain ⟨B, hB⟩ : ∃ B, B = limbs b := ⟨_, rfl⟩
  obtain ⟨d, hd⟩ : ∃ d, (limbs b)[n + 1]? = some d := ⟨_, List.getElem?_eq_getElem (by omega)⟩
  obtain ⟨s1, s2, s3, t, st, s4⟩ := norm_div b (n + 1) d hb hd
  have hdW := limbs_ok b d (List.mem_of_getElem? hd)
  have hlz := t_lz d hdW
  obtain ⟨sh, hsh⟩ : ∃ sh, sh = lz d := ⟨_, rfl⟩
  rw [← hsh] at s1 s2 s3 st hlz
  obtain ⟨p, hp⟩ : ∃ p, p = 2 ^ sh := ⟨_, rfl⟩
  have hp0 : 0 < p := hp ▸ Nat.pow_pos (by decide)
  have hpW : p < 4294967296 := by
    have : 2 ^ sh ≤ 2 ^ 31 := Nat.pow_le_pow_right (by decide) s1
    omega
  have la1 := limbs_lt a
  have hb0 : 0 < b := Nat.lt_of_lt_of_le (Nat.pow_pos (by decide)) (limbs_ge b (n + 1) hb)
  rw [← hp] at s2 s3 st
  obtain ⟨L, hL⟩ : ∃ L, (limbs a).length = L + 1 := by
    have : (limbs a).length ≠ 0 := fun e => by have := limbs_len_zero.1 e; omega
    exact ⟨(limbs a).length - 1, by omega⟩
  have hnL : n + 1 ≤ L := by
    have h1 := limbs_ge b (n + 1) hb
    rw [hL] at la1
    have h2 : 4294967296 ^ (n + 1) < 4294967296 ^ (L + 1) := by omega
    have := (Nat.pow_lt_pow_iff_right (by decide : 1 < 4294967296)).1 h2
    omega
  have hXge : 4294967296 ^ L ≤ a * p := Nat.le_trans (limbs_ge a L hL) (Nat.le_mul_of_pos_right _ hp0)
  have hXlt : a * p < 4294967296 ^ (L + 1) * p := by rw [← hL]; exact Nat.mul_lt_mul_of_pos_right la1 hp0
  have hXlt2 : a * p < 4294967296 ^ (L + 2) := Nat.lt_trans hXlt (by rw [Nat.pow_succ 4294967296 (L + 1)]; exact Nat.mul_lt_mul_of_pos_left hpW (Nat.pow_pos (by decide)))
  obtain ⟨uL, huL⟩ : ∃ uL, uL = limbs (a * p) := ⟨_, rfl⟩
  obtain ⟨vL, hvL⟩ : ∃ vL, vL = limbs (b * p) := ⟨_, rfl⟩
  have u1 : uL.length = L + 1 ∨ uL.length = L + 2 := by
    rw [huL]
    rcases Nat.lt_or_ge (a * p) (4294967296 ^ (L + 1)) with h | h
    · exact .inl (limbs_len _ L hXge h)
    · exact .inr (limbs_len _ (L + 1) h hXlt2)
  have okv : OkL vL := hvL ▸ limbs_ok _
  have vv : val vL = b * p := by rw [hvL, val_limbs]
  rw [← hvL] at s2 st
  refine pcall_vcz c_long (by simp [c_long]) fun x K hK => ?_
  have hw1 : IntKind.i64.wrap ((n : Int) + 2 - 1) = (n : Int) + 1 := by rw [wrap_i64 (by omega)]; omega
  have hBd : B[n + 1]? = some d := by rw [hB]; exact hd
  obtain ⟨_, hBe⟩ := List.getElem?_eq_some_iff.1 hBd
  have hBl : B.length = n + 2 := by rw [hB]; exact hb
  have hAl : A.length = L + 1 := by rw [hA]; exact hL
  simp [c_long, encNat, ← hA, ← hB, hBl, hw1, show (0 : Int) ≤ (n : Int) + 1 by omega, show (n : Int) + 1 < (n : Int) + 2 by omega, show ((n : Int) + 1).toNat = n + 1 by omega, hBe]
  refine oks_callz [] .wide [.int .u32 (U d)] hlz (by simp) (by simp; rfl) (by simp) ?_
  rintro _ rfl
  refine oks_vc .wide ?_
  simp
  have hs1 := t_shift b sh s1 (by omega)
  have hs2 := t_shift a sh s1 (by omega)
  rw [← hp] at hs1 hs2
  refine oks_callz [] .wide [encNat b, .int .i64 (sh : Int)] hs1 (by simp) (by simp; rfl) (by simp [encNat, ← hB]) ?_
  rintro _ rfl
  refine oks_vc .wide ?_
  simp [encNat, ← hvL]
  refine oks_callz [] .wide [encNat a, .int .i64 (sh : Int)] hs2 (by simp) (by simp; rfl) (by simp [encNat, ← hA]) ?_
  rintro _ rfl
  refine oks_vc .wide ?_
  simp [encNat, ← huL]
  refine oks_calln .wide (ps := [.sl none 1 (enc uL) []]) (by simp) (by simp) (t_clone32 uL (by rintro rfl; simp at u1) (by omega)) ?_
  rintro _ H ⟨k, rfl, hH⟩
  refine ⟨k, 1, 0, _, _, _, rfl, hH, oks_vc .wide ?_⟩
  simp
  refine vc_loop .wide (lgI A vL sh) (fun y => OkL y.2 ∧ val y.2 = a * p ∧ (y.2.length = L + 1 ∨ y.2.length = L + 2)) (fun y => L + 2 - y.2.length) ⟨false, uL⟩ ⟨huL ▸ limbs_ok _, by rw [huL]; exact val_limbs _, u1⟩ (sub_iff (by simp [lgI, lgk])) ?_
  rintro ⟨f, u⟩ ⟨h1, h2, h3⟩ Q k1 k2
  simp only at h1 h2 h3
  by_cases hl : u.length = L + 1
  · have b1 : (L + 1 + 1) * 4 ≤ 140737488355328 := by omega
    have b2 : L + 1 + 1 ≤ 9223372036854775807 := by omega
    cases f <;>
    · simp [lgI, lgk, hl, hAl, maxLen_eq, b1, b2]
      refine k1 _ (true, u ++ [0]) ⟨?_, ?_, ?_⟩ ?_ ?_
      · intro d hd
        rcases List.mem_append.1 hd with hd | hd
        · exact h1 d hd
        · simp at hd; omega
      · simp only; rw [val_append, h2]; simp [val]
      · right; simp [hl]
      · simp [hl]
      · exact sub_iff (by simp [lgI, lgk, hl, enc]; exact List.take_of_length_le (by simp [hl]))
  · have hl : u.length = L + 2 := by omega
    obtain ⟨N, hN⟩ : ∃ N, L = N + n := ⟨L - n, by omega⟩
    have s2' : vL.length = n + 2 := by omega
    have hwN : IntKind.i64.wrap ((L : Int) + 2 - ((n : Int) + 2)) = (N : Int) := by rw [wrap_i64 (by omega)]; omega
    have hwN1 : IntKind.i64.wrap ((N : Int) - 1) = (N : Int) - 1 := wrap_i64 (by omega)
    have b1 : N * 4 ≤ 281474976710656 := by omega
    have b2 : N ≤ 9223372036854775807 := by omega
    have hrep : List.replicate N [PV.int .u32 0] = enc (List.replicate N 0) := by simp [enc]
    have hV0 : 0 < b * p := Nat.mul_pos hb0 hp0
    have hVW : b * p < 4294967296 ^ (n + 2) := by have := val_lt okv; rwa [vv, s2'] at this
    have init : LongAt (a * p) (b * p) N (List.replicate N 0) u := by
      refine ⟨by simp [OkL], h1, ?_, ?_⟩
      · rw [List.drop_of_length_le (by simp), h2]; simp [val]
      · have e1 := val_split u N (by omega)
        rw [h2] at e1
        have e2 : 4294967296 ^ N * val (u.drop N) < 4294967296 ^ N * (4294967296 ^ (n + 1) * p) := by
          have : 4294967296 ^ (L + 1) * p = 4294967296 ^ N * (4294967296 ^ (n + 1) * p) := by rw [← Nat.mul_assoc, ← Nat.pow_add, hN, Nat.add_assoc]
          omega
        exact Nat.lt_of_lt_of_le (Nat.lt_of_mul_lt_mul_left e2) s3
    cases f
    · simp [lgI, lgk, hl, hAl, show ¬ ((L : Int) + 2 ≤ (L : Int) + 1) by omega]
      refine k2 _ _ (by simp) ?_
      simp [s2', hwN, hwN1, b1, b2, hrep]
      refine vc_loop .wide (lgJ vL sh 28 N L) (fun y => y.1 ≤ N ∧ y.2.1.length = N ∧ y.2.2.length = L + 2 ∧ LongAt (a * p) (b * p) y.1 y.2.1 y.2.2) (fun y => y.1) ⟨N, List.replicate N 0, u⟩ ⟨Nat.le_refl _, by simp, hl, init⟩ (sub_iff (by simp [lgJ])) ?_
      rintro ⟨jj, Qq, Uu⟩ ⟨j1, j2, j3, j4⟩ Q' k1' k2'
      simp only at j1 j2 j3 j4
      by_cases hj0 : jj = 0
      · subst hj0
        obtain ⟨f1, f2⟩ := long_end hp0 hb0 j4
        have hUlen := limbs_len_le j4.okU
        have hsn := t_shiftn (val Uu) sh s1 (by omega)
        rw [← hp, f2] at hsn
        have hcutQ : (enc Qq).take N = enc Qq := List.take_of_length_le (by simp [j2])
        have hcutU : (enc Uu).take (L + 2) = enc Uu := List.take_of_length_le (by simp [j3])
        have hneg : IntKind.i64.wrap (-(sh : Int)) = -(sh : Int) := wrap_i64 (by omega)
        simp [lgJ]
        refine k2' _ _ (by simp) ?_
        simp
        refine oks_callz [43] .wide [.sl none 1 (enc Qq) []] (t_trim none Qq [] j4.okQ) (by simp) (by simp [j2]; rfl) (by simp [hcutQ]) ?_
        rintro _ rfl
        refine oks_vc .wide ?_
        rw [f1]
        simp [encNat]
        refine oks_callz [28] .wide [.sl none 1 (enc Uu) []] (t_trim none Uu [] j4.okU) (by simp) (by simp [j3]; rfl) (by simp [hcutU]) ?_
        rintro _ rfl
        refine oks_vc .wide ?_
        simp [encNat, hneg]
        refine oks_callz [] .wide [encNat (val Uu), .int .i64 (-(sh : Int))] hsn (by simp) (by simp; rfl) (by simp [encNat]) ?_
        rintro _ rfl
        refine oks_vc .wide ?_
        simp [encNat]
        exact hK _ _ rfl (by simp [encNat])
      · obtain ⟨j, rfl⟩ : ∃ j, jj = j + 1 := ⟨jj - 1, by omega⟩
        have hjN : j < N := by omega
        have hlen : j + (n + 2) + 1 ≤ Uu.length := by omega
        obtain ⟨m1, m2⟩ := long_mid j4 hVW hlen
        have hM : ((Uu.drop j).take (n + 2 + 1)).length = n + 3 := by simp; omega
        have hpre : (Uu.take j).length = j := by simp; omega
        have hst := t_step (Uu.take j) ((Uu.drop j).take (n + 2 + 1)) (Uu.drop (j + (n + 2 + 1))) vL n (L + 2 - j) t (by omega) (by omega) (by omega) s2' hM (okL_take (fun d hd => j4.okU d (List.mem_of_mem_drop hd)) _) okv st s4 (by rw [vv]; exact m1)
        have hwhole : Uu.take j ++ ((Uu.drop j).take (n + 2 + 1) ++ Uu.drop (j + (n + 2 + 1))) = Uu := by
          rw [← List.drop_drop, List.take_append_drop, List.take_append_drop]
        rw [hwhole, hpre, vv] at hst
        obtain ⟨e, he⟩ : ∃ e, e = j + n + 3 := ⟨_, rfl⟩
        have hwe : IntKind.i64.wrap (IntKind.i64.wrap ((j : Int) + ((n : Int) + 2)) + 1) = (e : Int) := by rw [wrap_i64 (n := (j : Int) + ((n : Int) + 2)) (by omega), wrap_i64 (by omega)]; omega
        have hwj : IntKind.i64.wrap ((j : Int) - 1) = (j : Int) - 1 := wrap_i64 (by omega)
        have hee : e - j = n + 3 := by omega
        simp [lgJ, s2', hwe, show e ≤ L + 2 by omega, show j ≤ e by omega, hee]
        refine oks_callb .wide 28 (by simp) (by simp; exact ⟨rfl, rfl⟩) (by simpa using hst) ?_
        rintro _ H ⟨M, g1, g2, g3, rfl, hH⟩
        refine ⟨_, hH, oks_vc .wide ?_⟩
        have hq : val ((Uu.drop j).take (n + 2 + 1)) / (b * p) < 4294967296 := (Nat.div_lt_iff_lt_mul hV0).2 m1
        have hnext := long_step j4 hVW hV0 hlen (by omega) g1 g2 g3 hq
        have hQj : Qq[j]? = some (Qq[j]'(by omega)) := List.getElem?_eq_getElem _
        simp [hjN, hQj, hwj]
        refine k1' _ (j, _, _) ⟨by omega, ?_, ?_, hnext⟩ (by simp) (sub_iff (by simp [lgJ]))
        · simp [j2]
        · simp [g1]; omega
    · simp [lgI, lgk, hl, hAl, show ¬ ((L : Int) + 2 ≤ (L : Int) + 1) by omega]
      refine k2 _ _ (by simp) ?_
      simp [s2', hwN, hwN1, b1, b2, hrep]
      refine vc_loop .wide (lgJ vL sh 37 N L) (fun y => y.1 ≤ N ∧ y.2.1.length = N ∧ y.2.2.length = L + 2 ∧ LongAt (a * p) (b * p) y.1 y.2.1 y.2.2) (fun y => y.1) ⟨N, List.replicate N 0, u⟩ ⟨Nat.le_refl _, by simp, hl, init⟩ (sub_iff (by simp [lgJ])) ?_
      rintro ⟨jj, Qq, Uu⟩ ⟨j1, j2, j3, j4⟩ Q' k1' k2'
      simp only at j1 j2 j3 j4
      by_cases hj0 : jj = 0
      · subst hj0
        obtain ⟨f1, f2⟩ := long_end hp0 hb0 j4
        have hUlen := limbs_len_le j4.okU
        have hsn := t_shiftn (val Uu) sh s1 (by omega)
        rw [← hp, f2] at hsn
        have hcutQ : (enc Qq).take N = enc Qq := List.take_of_length_le (by simp [j2])
        have hcutU : (enc Uu).take (L + 2) = enc Uu := List.take_of_length_le (by simp [j3])
        have hneg : IntKind.i64.wrap (-(sh : Int)) = -(sh : Int) := wrap_i64 (by omega)
        simp [lgJ]
        refine k2' _ _ (by simp) ?_
        simp
        refine oks_callz [43] .wide [.sl none 1 (enc Qq) []] (t_trim none Qq [] j4.okQ) (by simp) (by simp [j2]; rfl) (by simp [hcutQ]) ?_
        rintro _ rfl
        refine oks_vc .wide ?_
        rw [f1]
        simp [encNat]
        refine oks_callz [37] .wide [.sl none 1 (enc Uu) []] (t_trim none Uu [] j4.okU) (by simp) (by simp [j3]; rfl) (by simp [hcutU]) ?_
        rintro _ rfl
        refine oks_vc .wide ?_
        simp [encNat, hneg]
        refine oks_callz [] .wide [encNat (val Uu), .int .i64 (-(sh : Int))] hsn (by simp) (by simp; rfl) (by simp [encNat]) ?_
        rintro _ rfl
        refine oks_vc .wide ?_
        simp [encNat]
        exact hK _ _ rfl (by simp [encNat])
      · obtain ⟨j, rfl⟩ : ∃ j, jj = j + 1 := ⟨jj - 1, by omega⟩
        have hjN : j < N := by omega
        have hlen : j + (n + 2) + 1 ≤ Uu.length := by omega
        obtain ⟨m1, m2⟩ := long_mid j4 hVW hlen
        have hM : ((Uu.drop j).take (n + 2 + 1)).length = n + 3 := by simp; omega
        have hpre : (Uu.take j).length = j := by simp; omega
        have hst := t_step (Uu.take j) ((Uu.drop j).take (n + 2 + 1)) (Uu.drop (j + (n + 2 + 1))) vL n (L + 2 - j) t (by omega) (by omega) (by omega) s2' hM (okL_take (fun d hd => j4.okU d (List.mem_of_mem_drop hd)) _) okv st s4 (by rw [vv]; exact m1)
        have hwhole : Uu.take j ++ ((Uu.drop j).take (n + 2 + 1) ++ Uu.drop (j + (n + 2 + 1))) = Uu := by
          rw [← List.drop_drop, List.take_append_drop, List.take_append_drop]
        rw [hwhole, hpre, vv] at hst
        obtain ⟨e, he⟩ : ∃ e, e = j + n + 3 := ⟨_, rfl⟩
        have hwe : IntKind.i64.wrap (IntKind.i64.wrap ((j : Int) + ((n : Int) + 2)) + 1) = (e : Int) := by rw [wrap_i64 (n := (j : Int) + ((n : Int) + 2)) (by omega), wrap_i64 (by omega)]; omega
        have hwj : IntKind.i64.wrap ((j : Int) - 1) = (j : Int) - 1 := wrap_i64 (by omega)
        have hee : e - j = n + 3 := by omega
        simp [lgJ, s2', hwe, show e ≤ L + 2 by omega, show j ≤ e by omega, hee]
        refine oks_callb .wide 37 (by simp) (by simp; exact ⟨rfl, rfl⟩) (by simpa using hst) ?_
        rintro _ H ⟨M, g1, g2, g3, rfl, hH⟩
        refine ⟨_, hH, oks_vc .wide ?_⟩
        have hq : val ((Uu.drop j).take (n + 2 + 1)) / (b * p) < 4294967296 := (Nat.div_lt_iff_lt_mul hV0).2 m1
        have hnext := long_step j4 hVW hV0 hlen (by omega) g1 g2 g3 hq
        have hQj : Qq[j]? = some (Qq[j]'(by omega)) := List.getElem?_eq_getElem _
        simp [hjN, hQj, hwj]
        refine k1' _ (j, _, _) ⟨by omega, ?_, ?_, hnext⟩ (by simp) (sub_iff (by simp [lgJ]))
        · simp [j2]
        · simp [g1]; omega
end Go.Dl
set_option linter.unusedVariables false
set_option linter.unusedSimpArgs false
set_option maxRecDepth 1000000
namespace Go.Dl
open Go.Proofs

theorem t_divmod (a b : Nat) (hb0 : b ≠ 0) (ha : (limbs a).length ≤ 800000) (hb : (limbs b).length ≤ 800000) : PCall Tryd.prog 91 [encNat a, encNat b] (· = .tup [encNat (a / b), encNat (a % b), .bool true]) := by
  refine pcall_vcz c_divmod (by simp [c_divmod]) fun x K hK => ?_
  simp [c_divmod]
  refine oks_callz [] .wide [encNat b] (t_zero b) (by simp) (by simp; rfl) (by simp [encNat]) ?_
  rintro _ rfl
  refine oks_vc .wide ?_
  simp [hb0]
  refine oks_callz [] .wide [encNat a, encNat b] (t_cmp a b) (by simp) (by simp; rfl) (by simp [encNat]) ?_
  rintro _ rfl
  refine oks_vc .wide ?_
  by_cases hlt : a < b
  · have hc : cmpI a b = -1 := by simp [cmpI, hlt]
    simp [hc]
    refine vc_drawS .wide [(2, 4), (3, 5)] rfl ?_
    simp
    refine hK _ _ rfl ?_
    simp [encNat, Nat.div_eq_of_lt hlt, Nat.mod_eq_of_lt hlt, limbs_zero]
  · have hc : ¬ cmpI a b < 0 := by unfold cmpI; split <;> (try split) <;> omega
    have ha0 : a ≠ 0 := by omega
    simp [hc]
    refine ⟨fun h1 => ?_, fun h1 => ?_⟩
    · have h1 : (limbs b).length = 1 := by omega
      have hbW : b < 4294967296 := by have := limbs_lt b; rw [h1] at this; simpa using this
      have hbL : limbs b = [b] := by rw [limbs_pos hb0, Nat.div_eq_of_lt hbW, limbs_zero, Nat.mod_eq_of_lt hbW]
      have hAne : limbs a ≠ [] := by rw [limbs_pos ha0]; simp
      obtain ⟨A, hA⟩ : ∃ A, A = limbs a := ⟨_, rfl⟩
      have okA : OkL A := hA ▸ limbs_ok a
      have vA : val A = a := by rw [hA, val_limbs]
      rw [← hA] at ha hAne
      simp only [← hA, hbL]
      have hls := t_less A [] A.length b (by omega) hbW okA (by omega)
      rw [vA, List.append_nil] at hls
      refine oks_calln .wide (ps := [.sl none 1 (enc A) []]) (by simp) (by simp) (t_clone32 A hAne (by omega)) ?_
      rintro _ H ⟨k, rfl, hH⟩
      refine ⟨k, 1, 0, _, _, _, rfl, hH, oks_vc .wide ?_⟩
      simp
      refine oks_callb .wide 30 (by simp) (by simp; exact ⟨rfl, rfl⟩) (by simpa using hls) ?_
      rintro _ H ⟨q, g1, g2, g3, hH, rfl⟩
      refine ⟨_, hH, oks_vc .wide ?_⟩
      have hm : a % b % 18446744073709551616 = a % b := Nat.mod_eq_of_lt (Nat.lt_trans (Nat.mod_lt _ (by omega)) (by omega))
      have hcut : (enc q).take A.length = enc q := List.take_of_length_le (by simp [g1])
      simp
      refine oks_callz [30] .wide [.sl none 1 (enc q) []] (t_trim none q [] g2) (by simp) (by simp [g1]; rfl) (by simp [hcut]) ?_
      rintro _ rfl
      refine oks_vc .wide ?_
      rw [g3]
      simp [encNat, hm]
      refine oks_callz [] .wide [.int .u64 (U (a % b))] (t_of (a % b) (Nat.lt_trans (Nat.mod_lt _ (by omega)) (by omega))) (by simp) (by simp; rfl) (by simp) ?_
      rintro _ rfl
      refine oks_vc .wide ?_
      simp [encNat]
      exact hK _ _ rfl (by simp [encNat])
    · obtain ⟨n, hn⟩ : ∃ n, (limbs b).length = n + 2 := by
        have : (limbs b).length ≠ 0 := fun e => hb0 (limbs_len_zero.1 e)
        exact ⟨(limbs b).length - 2, by omega⟩
      refine oks_callz [] .wide [encNat a, encNat b] (t_long a b n hn (by omega) ha) (by simp) (by simp; rfl) (by simp [encNat]) ?_
      rintro _ rfl
      refine oks_vc .wide ?_
      simp [encNat]
      refine vc_drawS .wide [(2, 4), (3, 5)] rfl ?_
      simp
      exact hK _ _ rfl (by simp [encNat])

def gcI (a b : Nat) : St := ⟨21, [(4, .ptr 4 1 0 0), (3, .ptr 3 1 0 0), (2, .ptr 2 1 0 0)], [(4, ⟨false, 1, .p [[.sl (some true) 0 [] []]]⟩), (3, ⟨false, 1, .p [[.sl none 1 (enc (limbs b)) []]]⟩), (2, ⟨false, 1, .p [[.sl none 1 (enc (limbs a)) []]]⟩)]⟩
theorem limbs_mono {a b : Nat} (h : a ≤ b) : (limbs a).length ≤ (limbs b).length := by
  rcases Nat.eq_zero_or_pos (limbs a).length with h0 | h0
  · omega
  · obtain ⟨k, hk⟩ : ∃ k, (limbs a).length = k + 1 := ⟨(limbs a).length - 1, by omega⟩
    have h1 := limbs_ge _ k hk
    have h2 := limbs_lt b
    have := (Nat.pow_lt_pow_iff_right (by decide : 1 < 4294967296)).1 (Nat.lt_of_le_of_lt (Nat.le_trans h1 h) h2)
    omega
theorem t_gcd (a b : Nat) (ha : (limbs a).length ≤ 800000) (hb : (limbs b).length ≤ 800000) : PCall Tryd.prog 90 [encNat a, encNat b] (· = encNat (Nat.gcd a b)) := by
  refine pcall_vcz c_gcd (by simp [c_gcd]) fun x K hK => ?_
  simp [c_gcd, encNat]
  refine vc_loop .wide (fun y : Nat × Nat => gcI y.1 y.2) (fun y => (limbs y.1).length ≤ 800000 ∧ (limbs y.2).length ≤ 800000 ∧ Nat.gcd y.1 y.2 = Nat.gcd a b) (fun y => y.2) (a, b) ⟨ha, hb, rfl⟩ (sub_iff (by simp [gcI])) ?_
  rintro ⟨u, v⟩ ⟨h1, h2, h3⟩ Q k1 k2
  simp only at h1 h2 h3
  simp [gcI]
  refine oks_callz [] .wide [encNat v] (t_zero v) (by simp) (by simp; rfl) (by simp [encNat]) ?_
  rintro _ rfl
  refine oks_vc .wide ?_
  by_cases hv : v = 0
  · subst hv
    rw [Nat.gcd_zero_right] at h3
    simp
    refine k2 _ _ (by simp) ?_
    simp
    exact hK _ _ rfl (by simp [encNat, h3])
  · simp [hv]
    refine oks_callz [] .wide [encNat u, encNat v] (t_divmod u v hv h1 h2) (by simp) (by simp; rfl) (by simp [encNat]) ?_
    rintro _ rfl
    refine oks_vc .wide ?_
    simp [encNat]
    refine vc_drawS .wide [(2, 2), (3, 3)] rfl ?_
    simp
    have hlt : u % v < v := Nat.mod_lt _ (by omega)
    refine k1 _ (v, u % v) ⟨h2, Nat.le_trans (limbs_mono (Nat.le_of_lt hlt)) h2, ?_⟩ (by simpa using hlt) (sub_iff (by simp [gcI]))
    rw [← h3]
    simp only
    rw [Nat.gcd_comm u v, Nat.gcd_rec v u, Nat.gcd_comm]
end Go.Dl
set_option linter.unusedVariables false
set_option linter.unusedSimpArgs false
set_option maxRecDepth 1000000
namespace Go.Dl
open Go.Proofs

noncomputable def c_den : { d : DFn // compF Tryd.prog 81 = some d } := by
  refine ⟨?_, ?_⟩
  rotate_left
  · conv => lhs; reduce
noncomputable def c_whole : { d : DFn // compF Tryd.prog 48 = some d } := by
  refine ⟨?_, ?_⟩
  rotate_left
  · conv => lhs; reduce
noncomputable def c_lowest : { d : DFn // compF Tryd.prog 68 = some d } := by
  refine ⟨?_, ?_⟩
  rotate_left
  · conv => lhs; reduce
noncomputable def c_make : { d : DFn // compF Tryd.prog 43 = some d } := by
  refine ⟨?_, ?_⟩
  rotate_left
  · conv => lhs; reduce
noncomputable def c_rtext : { d : DFn // compF Tryd.prog 20 = some d } := by
  refine ⟨?_, ?_⟩
  rotate_left
  · conv => lhs; reduce
noncomputable def c_rparse : { d : DFn // compF Tryd.prog 12 = some d } := by
  refine ⟨?_, ?_⟩
  rotate_left
  · conv => lhs; reduce
noncomputable def c_cross : { d : DFn // compF Tryd.prog 86 = some d } := by
  refine ⟨?_, ?_⟩
  rotate_left
  · conv => lhs; reduce
noncomputable def c_rcmp : { d : DFn // compF Tryd.prog 59 = some d } := by
  refine ⟨?_, ?_⟩
  rotate_left
  · conv => lhs; reduce

def encRat (neg : Bool) (n d : Nat) : PV := .agg [.bool neg, .sl none 1 (enc (limbs n)) [], .sl none 1 (enc (limbs d)) []]
def den1 (d : Nat) : Nat := if d = 0 then 1 else d

theorem t_den (neg : Bool) (n d : Nat) : PCall Tryd.prog 81 [encRat neg n d] (· = encNat (den1 d)) := by
  refine pcall_vcz c_den (by simp [c_den]) fun x K hK => ?_
  simp [c_den, encRat]
  refine oks_callz [] .wide [encNat d] (t_zero d) (by simp) (by simp; rfl) (by simp [encNat]) ?_
  rintro _ rfl
  refine oks_vc .wide ?_
  by_cases h : d = 0
  · simp [h]
    refine oks_callz [] .wide [.int .u64 (U 1)] (t_of 1 (by decide)) (by simp) (by simp; rfl) (by simp [U]) ?_
    rintro _ rfl
    refine oks_vc .wide ?_
    simp [encNat]
    exact hK _ _ rfl (by simp [den1, h, encNat])
  · simp [h]
    exact hK _ _ rfl (by simp [den1, h, encNat])

theorem t_whole (neg : Bool) (n d : Nat) : PCall Tryd.prog 48 [encRat neg n d] (· = .bool (decide (den1 d = 1))) := by
  refine pcall_vcz c_whole (by simp [c_whole]) fun x K hK => ?_
  simp [c_whole, encRat]
  refine oks_callz [] .wide [encRat neg n d] (t_den neg n d) (by simp) (by simp; rfl) (by simp [encRat]) ?_
  rintro _ rfl
  refine oks_vc .wide ?_
  simp [encNat]
  refine oks_callz [] .wide [.int .u64 (U 1)] (t_of 1 (by decide)) (by simp) (by simp; rfl) (by simp [U]) ?_
  rintro _ rfl
  refine oks_vc .wide ?_
  simp [encNat]
  refine oks_callz [] .wide [encNat (den1 d), encNat 1] (t_cmp _ _) (by simp) (by simp; rfl) (by simp [encNat]) ?_
  rintro _ rfl
  refine oks_vc .wide ?_
  simp
  refine hK _ _ rfl ?_
  have : (cmpI (den1 d) 1 == 0) = decide (den1 d = 1) := by
    unfold cmpI
    by_cases h1 : den1 d < 1
    · simp [h1]; omega
    · by_cases h2 : den1 d = 1
      · simp [h2]
      · simp [h1, h2]
  simp [this]

def lowP (neg : Bool) (n d : Nat) : PV := if n = 0 then encRat false 0 0 else encRat neg (n / Nat.gcd n d) (d / Nat.gcd n d)
theorem t_lowest (neg : Bool) (n d : Nat) (hn : (limbs n).length ≤ 800000) (hd : (limbs d).length ≤ 800000) : PCall Tryd.prog 68 [.bool neg, encNat n, encNat d] (· = lowP neg n d) := by
  refine pcall_vcz c_lowest (by simp [c_lowest]) fun x K hK => ?_
  simp [c_lowest, encNat]
  refine oks_callz [] .wide [encNat n] (t_zero n) (by simp) (by simp; rfl) (by simp [encNat]) ?_
  rintro _ rfl
  refine oks_vc .wide ?_
  by_cases h : n = 0
  · simp [h]
    exact hK _ _ rfl (by simp [lowP, h, encRat, limbs_zero])
  · have hg : Nat.gcd n d ≠ 0 := fun e => h (Nat.eq_zero_of_gcd_eq_zero_left e)
    have hgn : (limbs (Nat.gcd n d)).length ≤ 800000 := Nat.le_trans (limbs_mono (Nat.gcd_le_left d (Nat.pos_of_ne_zero h))) hn
    simp [h]
    refine oks_callz [] .wide [encNat n, encNat d] (t_gcd n d hn hd) (by simp) (by simp; rfl) (by simp [encNat]) ?_
    rintro _ rfl
    refine oks_vc .wide ?_
    simp [encNat]
    refine oks_callz [] .wide [encNat n, encNat (Nat.gcd n d)] (t_divmod n _ hg hn hgn) (by simp) (by simp; rfl) (by simp [encNat]) ?_
    rintro _ rfl
    refine oks_vc .wide ?_
    simp [encNat]
    refine oks_callz [] .wide [encNat d, encNat (Nat.gcd n d)] (t_divmod d _ hg hd hgn) (by simp) (by simp; rfl) (by simp [encNat]) ?_
    rintro _ rfl
    refine oks_vc .wide ?_
    simp [encNat]
    exact hK _ _ rfl (by simp [lowP, h, encRat])

def makeP (neg : Bool) (n d : Nat) : PV := if d = 0 then .tup [encRat false 0 0, .int .i64 4] else .tup [lowP neg n d, .int .i64 0]
theorem t_make (neg : Bool) (n d : Nat) (hn : (limbs n).length ≤ 800000) (hd : (limbs d).length ≤ 800000) : PCall Tryd.prog 43 [.bool neg, encNat n, encNat d] (· = makeP neg n d) := by
  refine pcall_vcz c_make (by simp [c_make]) fun x K hK => ?_
  simp [c_make, encNat]
  refine oks_callz [] .wide [encNat d] (t_zero d) (by simp) (by simp; rfl) (by simp [encNat]) ?_
  rintro _ rfl
  refine oks_vc .wide ?_
  by_cases h : d = 0
  · simp [h]
    exact hK _ _ rfl (by simp [makeP, h, encRat, limbs_zero])
  · simp [h]
    refine oks_callz [] .wide [.bool neg, encNat n, encNat d] (t_lowest neg n d hn hd) (by simp) (by simp; rfl) (by simp [encNat]) ?_
    rintro _ rfl
    refine oks_vc .wide ?_
    by_cases h0 : n = 0
    · simp [lowP, encRat, h0]
      exact hK _ _ rfl (by simp [makeP, h, lowP, h0, encRat])
    · simp [lowP, encRat, h0]
      exact hK _ _ rfl (by simp [makeP, h, lowP, h0, encRat])

theorem decT_len (v : Nat) : (decT v).length ≤ 32 * (limbs v).length + 1 := by
  have key : ∀ v, v ≠ 0 → 10 ^ ((decT v).length - 1) ≤ v := by
    intro v
    induction v using Nat.strongRecOn with
    | ind v ih =>
      intro h0
      by_cases h : v < 10
      · rw [decT_lt h]; simp; omega
      · rw [decT_ge h, List.length_append]
        obtain ⟨b, r, e, _⟩ := decT_head (v / 10) (by omega)
        have := ih (v / 10) (by omega) (by omega)
        rw [e] at this ⊢
        simp only [List.length_cons, List.length_nil, Nat.zero_add, Nat.add_sub_cancel] at this ⊢
        rw [Nat.pow_succ]
        omega
  by_cases h : v = 0
  · subst h; rw [decT_lt (by decide)]; simp
  · have := log_bound (limbs v) _ (limbs_ok v) (by rw [val_limbs]; exact key v h)
    omega

def ratT (neg : Bool) (n d : Nat) : List UInt8 := (if neg then [45] else []) ++ decT n ++ (if den1 d = 1 then [] else 47 :: decT d)
theorem t_rtext (neg : Bool) (n d : Nat) (hn : (limbs n).length ≤ 30000) (hd : (limbs d).length ≤ 30000) : PCall Tryd.prog 20 [encRat neg n d] (· = .str (ratT neg n d)) := by
  refine pcall_vcz c_rtext (by simp [c_rtext]) fun x K hK => ?_
  have l1 := decT_len n
  have l2 := decT_len d
  have g1 : (decT n).length + 1 ≤ 9223372036854775807 := by omega
  have g2 : (decT d).length + 1 ≤ 9223372036854775807 := by omega
  have g3 : (decT n).length + ((decT d).length + 1) ≤ 9223372036854775807 := by omega
  have g4 : (decT n).length + 1 + ((decT d).length + 1) ≤ 9223372036854775807 := by omega
  have g5 : 1 + (decT n).length ≤ 9223372036854775807 := by omega
  have g6 : 1 + (decT d).length ≤ 9223372036854775807 := by omega
  simp [c_rtext, encRat]
  refine oks_callz [] .wide [encNat n] (t_text n hn) (by simp) (by simp; rfl) (by simp [encNat]) ?_
  rintro _ rfl
  refine oks_vc .wide ?_
  cases neg <;>
  · simp [g5]
    refine oks_callz [] .wide [encRat _ n d] (t_whole _ n d) (by simp) (by simp; rfl) (by simp [encRat]; rfl) ?_
    rintro _ rfl
    refine oks_vc .wide ?_
    by_cases h : den1 d = 1
    · simp [h]
      exact hK _ _ rfl (by simp [ratT, h])
    · simp [h]
      refine oks_callz [] .wide [encNat d] (t_text d hd) (by simp) (by simp; rfl) (by simp [encNat]) ?_
      rintro _ rfl
      refine oks_vc .wide ?_
      simp [g1, g2, g3, g4, g6]
      exact hK _ _ rfl (by simp [ratT, h])
end Go.Dl
set_option linter.unusedVariables false
set_option linter.unusedSimpArgs false
set_option maxRecDepth 1000000
namespace Go.Dl
open Go.Proofs

theorem t_cross (s : Bool) (a b : Nat) (t : Bool) (c d : Nat) (ha : (limbs a).length ≤ 800000) (hb : (limbs (den1 b)).length ≤ 800000) (hc : (limbs c).length ≤ 800000) (hd : (limbs (den1 d)).length ≤ 800000) :
    PCall Tryd.prog 86 [encRat s a b, encRat t c d] (· = .tup [encNat (a * den1 d), encNat (c * den1 b)]) := by
  refine pcall_vcz c_cross (by simp [c_cross]) fun x K hK => ?_
  simp [c_cross, encRat]
  refine vc_drawS .wide [(10, 4), (11, 5)] rfl ?_
  simp
  refine dcall_pz [encRat t c d] _ (t_den t c d) (by simp; rfl) (by simp [encRat]) ?_
  simp [encNat]
  refine dcall_pz [encNat a, encNat (den1 d)] _ (t_mul a _ (by omega) (by omega)) (by simp; rfl) (by simp [encNat]) ?_
  simp [encNat]
  refine dcall_pz [encRat s a b] _ (t_den s a b) (by simp; rfl) (by simp [encRat]) ?_
  simp [encNat]
  refine dcall_pz [encNat c, encNat (den1 b)] _ (t_mul c _ (by omega) (by omega)) (by simp; rfl) (by simp [encNat]) ?_
  simp [encNat]
  exact hK _ _ rfl (by simp [encNat])

def rcmpI (s : Bool) (x : Nat) (t : Bool) (y : Nat) : Int := if s && t then cmpI y x else if s then -1 else if t then 1 else cmpI x y
theorem t_rcmp (s : Bool) (a b : Nat) (t : Bool) (c d : Nat) (ha : (limbs a).length ≤ 800000) (hb : (limbs (den1 b)).length ≤ 800000) (hc : (limbs c).length ≤ 800000) (hd : (limbs (den1 d)).length ≤ 800000) :
    PCall Tryd.prog 59 [encRat s a b, encRat t c d] (· = .int .i64 (rcmpI s (a * den1 d) t (c * den1 b))) := by
  refine pcall_vcz c_rcmp (by simp [c_rcmp]) fun x K hK => ?_
  simp [c_rcmp, encRat]
  refine oks_callz [] .wide [encRat s a b, encRat t c d] (t_cross s a b t c d ha hb hc hd) (by simp) (by simp; rfl) (by simp [encRat]) ?_
  rintro _ rfl
  refine oks_vc .wide ?_
  cases s <;> cases t <;> simp [encNat]
  · refine oks_callz [] .wide [encNat (a * den1 d), encNat (c * den1 b)] (t_cmp _ _) (by simp) (by simp; rfl) (by simp [encNat]) ?_
    rintro _ rfl
    refine oks_vc .wide ?_
    simp
    exact hK _ _ rfl (by simp [rcmpI])
  · exact hK _ _ rfl (by simp [rcmpI])
  · exact hK _ _ rfl (by simp [rcmpI])
  · refine oks_callz [] .wide [encNat (c * den1 b), encNat (a * den1 d)] (t_cmp _ _) (by simp) (by simp; rfl) (by simp [encNat]) ?_
    rintro _ rfl
    refine oks_vc .wide ?_
    simp
    exact hK _ _ rfl (by simp [rcmpI])

/-! reading -/
def rpNeg (s : List UInt8) : Bool := (cutPre 45 s).2
def rpA (s : List UInt8) : List UInt8 := (cutC 47 (cutPre 45 s).1).1
def rpB (s : List UInt8) : List UInt8 := if (cutC 47 (cutPre 45 s).1).2.2 then (cutC 47 (cutPre 45 s).1).2.1 else [49]
/-- numerator and denominator of the lowest terms -/
def lowN (neg : Bool) (n d : Nat) : Bool × Nat × Nat := if n = 0 then (false, 0, 0) else (neg, n / Nat.gcd n d, d / Nat.gcd n d)
def ratT' (r : Bool × Nat × Nat) : List UInt8 := ratT r.1 r.2.1 r.2.2
def rOk (s : List UInt8) : Bool := isNum (rpA s) && isNum (rpB s) && decide (decval (rpB s) ≠ 0) && decide (ratT' (lowN (rpNeg s) (decval (rpA s)) (decval (rpB s))) = s ∧ (rpA s).length ≤ 1200 ∧ (rpB s).length ≤ 1200)
/-- why a text is no fraction -/
def rErr (s : List UInt8) : Int := if isNum (rpA s) && isNum (rpB s) && (decide (1200 < (rpA s).length) || decide (1200 < (rpB s).length)) then 2 else 3
@[simp] theorem rErr_ne (s : List UInt8) : (rErr s = 0) = False := by unfold rErr; split <;> simp
@[simp] theorem rErr_beq (s : List UInt8) : (rErr s == 0) = false := by unfold rErr; split <;> rfl
@[simp] theorem rErr_bne (s : List UInt8) : (rErr s != 0) = true := by unfold rErr; split <;> rfl
def rval (s : List UInt8) : Bool × Nat × Nat := lowN (rpNeg s) (decval (rpA s)) (decval (rpB s))
def encR (r : Bool × Nat × Nat) : PV := encRat r.1 r.2.1 r.2.2
def rparseP (s : List UInt8) : PV := if rOk s then .tup [encR (rval s), .int .i64 0] else .tup [encRat false 0 0, .int .i64 (rErr s)]

theorem lowP_eq (neg : Bool) (n d : Nat) : lowP neg n d = encR (lowN neg n d) := by
  unfold lowP lowN encR; split <;> rfl
theorem decval_lt : ∀ (s : List UInt8), s.all isDig = true → decval s < 10 ^ s.length := by
  intro s
  obtain ⟨n, hn⟩ : ∃ n, s.length = n := ⟨_, rfl⟩
  induction n generalizing s with
  | zero => intro _; have := List.eq_nil_of_length_eq_zero hn; subst this; decide
  | succ n ih =>
    intro h
    have hne : s ≠ [] := by rintro rfl; simp at hn
    rw [← List.dropLast_concat_getLast hne] at h hn ⊢
    generalize s.dropLast = t at *
    generalize s.getLast hne = c at *
    simp only [List.all_append, List.all_cons, List.all_nil, Bool.and_true, Bool.and_eq_true, isDig, decide_eq_true_eq] at h
    have := ih t (by simpa using hn) h.1
    rw [decval_app, List.length_append, List.length_cons, List.length_nil, Nat.zero_add, Nat.pow_succ]
    omega
theorem limbs_decval (s : List UInt8) (h : isNum s = true) : (limbs (decval s)).length ≤ s.length := by
  have hd : s.all isDig = true := by unfold isNum at h; rw [Bool.and_eq_true] at h; exact h.1
  have h1 := decval_lt s hd
  rcases Nat.eq_zero_or_pos (limbs (decval s)).length with h0 | h0
  · omega
  · obtain ⟨k, hk⟩ : ∃ k, (limbs (decval s)).length = k + 1 := ⟨(limbs (decval s)).length - 1, by omega⟩
    have h2 := limbs_ge _ k hk
    have h3 : 10 ^ s.length ≤ 4294967296 ^ s.length := Nat.pow_le_pow_left (by decide) _
    have := (Nat.pow_lt_pow_iff_right (by decide : 1 < 4294967296)).1 (Nat.lt_of_le_of_lt h2 (Nat.lt_of_lt_of_le h1 h3))
    omega
theorem cutC_len (c : UInt8) : ∀ s : List UInt8, (cutC c s).1.length ≤ s.length ∧ (cutC c s).2.1.length ≤ s.length
  | [] => by simp [cutC]
  | x :: r => by
    have := cutC_len c r
    unfold cutC
    split
    · simp
    · simp; omega
theorem cutPre_len (c : UInt8) (s : List UInt8) : (cutPre c s).1.length ≤ s.length := by
  cases s with
  | nil => simp [cutPre]
  | cons x r => by_cases h : x = c <;> simp [cutPre, h]
theorem lowN_len (neg : Bool) (n d k : Nat) (hn : (limbs n).length ≤ k) (hd : (limbs d).length ≤ k) : (limbs (lowN neg n d).2.1).length ≤ k ∧ (limbs (lowN neg n d).2.2).length ≤ k := by
  unfold lowN
  split
  · simp [limbs_zero]
  · exact ⟨Nat.le_trans (limbs_mono (Nat.div_le_self _ _)) hn, Nat.le_trans (limbs_mono (Nat.div_le_self _ _)) hd⟩

/-- a call whose guard is not met -/
theorem oks_skipc {F : Fence} {P : Program} {nt : Nat} {x : Fx} {st : St} (hF : Free F) {R : St → Prop} {ops : List DOper} {d : Nat} {o : DOp} {i : Nat} {want : Bool} (hb : st.get i = .p (.bool (!want))) (h : OkOps F P nt x ops R (st.set d (.p (.tup [])))) :
    OkOps F P nt x (⟨some d, o, some (i, want)⟩ :: ops) R st := oks_step hF (by cases want <;> simp only [stepGd, hb] <;> rfl) h
theorem t_rparse (s : List UInt8) (hs : s.length ≤ 100000) : PCall Tryd.prog 12 [.str s] (· = rparseP s) := by
  refine pcall_vcz c_rparse (by simp [c_rparse]) fun x K hK => ?_
  have l1 := cutPre_len 45 s
  have l2 := cutC_len 47 (cutPre 45 s).1
  have lA : (rpA s).length ≤ 100000 := by unfold rpA; omega
  have lB : (rpB s).length ≤ 100000 := by unfold rpB; split; (omega); simp
  simp [c_rparse]
  refine oks_callz [] .wide [.str s, .str [45]] (t_cutp s 45 (by omega)) (by simp) (by simp; rfl) (by simp) ?_
  rintro _ rfl
  refine oks_vc .wide ?_
  simp [cutPreP]
  refine oks_callz [] .wide [.str (cutPre 45 s).1, .str [47]] (t_cut (cutPre 45 s).1 47 (by omega)) (by simp) (by simp; rfl) (by simp) ?_
  rintro _ rfl
  refine oks_vc .wide ?_
  simp [cutP]
  have pOk : ∀ t : List UInt8, t.length ≤ 1200 → isNum t = true → parseN t = .tup [encNat (decval t), .int .i64 0] := fun t h1 h2 => by simp [parseN, h2, h1]
  have pLim : ∀ t : List UInt8, ¬ t.length ≤ 1200 → isNum t = true → parseN t = .tup [encNat 0, .int .i64 2] := fun t h1 h2 => by simp [parseN, h2, h1]
  have pNo : ∀ t : List UInt8, ¬ isNum t = true → parseN t = .tup [encNat 0, .int .i64 3] := fun t h2 => by simp [parseN, h2]
  have hcA : PCall Tryd.prog 42 [.str (cutC 47 (cutPre 45 s).1).1] (· = parseN (rpA s)) := t_parseN _ (by omega)
  have hneg : (cutPre 45 s).2 = rpNeg s := rfl
  have no : rOk s = false → rErr s = 3 → rparseP s = .tup [encRat false 0 0, .int .i64 3] := fun h h' => by simp [rparseP, h, h']
  have lim : rOk s = false → rErr s = 2 → rparseP s = .tup [encRat false 0 0, .int .i64 2] := fun h h' => by simp [rparseP, h, h']
  have yes : rOk s = true → rparseP s = .tup [encR (rval s), .int .i64 0] := fun h => by simp [rparseP, h]
  refine ⟨fun h2 => ?_, fun h2 => ?_⟩
  · have hcB : PCall Tryd.prog 42 [.str (cutC 47 (cutPre 45 s).1).2.1] (· = parseN (rpB s)) := by
      have := t_parseN (rpB s) (by omega)
      rwa [show rpB s = (cutC 47 (cutPre 45 s).1).2.1 by simp [rpB, h2]] at this ⊢
    refine oks_callz [] .wide [.str (cutC 47 (cutPre 45 s).1).1] hcA (by simp) (by simp; rfl) (by simp) ?_
    rintro _ rfl
    refine oks_vc .wide ?_
    by_cases hA : isNum (rpA s) = true
    · by_cases lA2 : (rpA s).length ≤ 1200
      · rw [pOk _ lA2 hA]
        have nA := limbs_decval _ hA
        simp [encNat]
        refine oks_callz [] .wide [.str (cutC 47 (cutPre 45 s).1).2.1] hcB (by simp) (by simp; rfl) (by simp) ?_
        rintro _ rfl
        refine oks_vc .wide ?_
        by_cases hB : isNum (rpB s) = true
        · by_cases lB2 : (rpB s).length ≤ 1200
          · have e3 : rErr s = 3 := by simp [rErr, show ¬ 1200 < (rpA s).length by omega, show ¬ 1200 < (rpB s).length by omega]
            rw [pOk _ lB2 hB]
            have nB := limbs_decval _ hB
            simp [encNat, hneg]
            refine oks_callz [] .wide [.bool (rpNeg s), encNat (decval (rpA s)), encNat (decval (rpB s))] (t_make (rpNeg s) _ _ (by omega) (by omega)) (by simp) (by simp; rfl) (by simp [encNat]) ?_
            rintro _ rfl
            refine oks_vc .wide ?_
            by_cases hz : decval (rpB s) = 0
            · simp [makeP, hz, encRat]
              refine oks_skipc .wide (by simp) (oks_vc .wide ?_)
              simp
              exact hK _ _ (no (by simp [rOk, hz]) e3).symm (by simp [encRat, limbs_zero])
            · have hl := lowN_len (rpNeg s) (decval (rpA s)) (decval (rpB s)) 1200 (by omega) (by omega)
              have ev : encR (lowN (rpNeg s) (decval (rpA s)) (decval (rpB s))) = encR (rval s) := rfl
              have hr : ratT' (lowN (rpNeg s) (decval (rpA s)) (decval (rpB s))) = ratT (rval s).1 (rval s).2.1 (rval s).2.2 := rfl
              have hl' : (limbs (rval s).2.1).length ≤ 1200 ∧ (limbs (rval s).2.2).length ≤ 1200 := hl
              rw [makeP, if_neg hz, lowP_eq, ev]
              simp [encR, encRat]
              refine oks_callz [] .wide [encRat (rval s).1 (rval s).2.1 (rval s).2.2] (t_rtext _ _ _ (by omega) (by omega)) (by simp) (by simp; rfl) (by simp [encRat]) ?_
              rintro _ rfl
              refine oks_vc .wide ?_
              by_cases he : ratT (rval s).1 (rval s).2.1 (rval s).2.2 = s
              · simp [he]
                exact hK _ _ (yes (by simp [rOk, hA, hB, hz, hr, he, lA2, lB2])).symm (by simp [encR, encRat])
              · simp [he]
                refine hK (.tup [.agg [.bool false, .sl none 0 [] [], .sl none 0 [] []], .int .i64 3]) _ (no ?_ e3).symm (by simp [encRat, limbs_zero])
                simp [rOk, hA, hB, hz, hr, he]
          · have e2 : rErr s = 2 := by simp [rErr, hA, hB, show 1200 < (rpB s).length by omega]
            rw [pLim _ lB2 hB]
            simp [encNat]
            exact hK _ _ (lim (by simp [rOk, lB2]) e2).symm (by simp [encRat, limbs_zero])
        · rw [pNo _ hB]
          simp [encNat]
          exact hK _ _ (no (by simp [rOk, hB]) (by simp [rErr, hB])).symm (by simp [encRat, limbs_zero])
      · rw [pLim _ lA2 hA]
        simp [encNat]
        refine oks_callz [] .wide [.str (cutC 47 (cutPre 45 s).1).2.1] hcB (by simp) (by simp; rfl) (by simp) ?_
        rintro _ rfl
        refine oks_vc .wide ?_
        by_cases hB : isNum (rpB s) = true
        · have e2 : rErr s = 2 := by simp [rErr, hA, hB, show 1200 < (rpA s).length by omega]
          by_cases lB2 : (rpB s).length ≤ 1200
          · rw [pOk _ lB2 hB]
            simp [encNat]
            exact hK _ _ (lim (by simp [rOk, lA2]) e2).symm (by simp [encRat, limbs_zero])
          · rw [pLim _ lB2 hB]
            simp [encNat]
            exact hK _ _ (lim (by simp [rOk, lA2]) e2).symm (by simp [encRat, limbs_zero])
        · rw [pNo _ hB]
          simp [encNat]
          exact hK _ _ (no (by simp [rOk, hB]) (by simp [rErr, hB])).symm (by simp [encRat, limbs_zero])
    · have e3 : rErr s = 3 := by simp [rErr, hA]
      rw [pNo _ hA]
      simp [encNat]
      refine oks_callz [] .wide [.str (cutC 47 (cutPre 45 s).1).2.1] hcB (by simp) (by simp; rfl) (by simp) ?_
      rintro _ rfl
      refine oks_vc .wide ?_
      by_cases hB : isNum (rpB s) = true
      · by_cases lB2 : (rpB s).length ≤ 1200
        · rw [pOk _ lB2 hB]
          simp [encNat]
          exact hK _ _ (no (by simp [rOk, hA]) e3).symm (by simp [encRat, limbs_zero])
        · rw [pLim _ lB2 hB]
          simp [encNat]
          exact hK _ _ (no (by simp [rOk, hA]) e3).symm (by simp [encRat, limbs_zero])
      · rw [pNo _ hB]
        simp [encNat]
        exact hK _ _ (no (by simp [rOk, hA]) e3).symm (by simp [encRat, limbs_zero])
  · have hcB : PCall Tryd.prog 42 [.str [49]] (· = parseN (rpB s)) := by
      have := t_parseN (rpB s) (by omega)
      rwa [show rpB s = [49] by simp [rpB, h2]] at this ⊢
    refine oks_callz [] .wide [.str (cutC 47 (cutPre 45 s).1).1] hcA (by simp) (by simp; rfl) (by simp) ?_
    rintro _ rfl
    refine oks_vc .wide ?_
    by_cases hA : isNum (rpA s) = true
    · by_cases lA2 : (rpA s).length ≤ 1200
      · rw [pOk _ lA2 hA]
        have nA := limbs_decval _ hA
        simp [encNat]
        refine oks_callz [] .wide [.str [49]] hcB (by simp) (by simp; rfl) (by simp) ?_
        rintro _ rfl
        refine oks_vc .wide ?_
        by_cases hB : isNum (rpB s) = true
        · by_cases lB2 : (rpB s).length ≤ 1200
          · have e3 : rErr s = 3 := by simp [rErr, show ¬ 1200 < (rpA s).length by omega, show ¬ 1200 < (rpB s).length by omega]
            rw [pOk _ lB2 hB]
            have nB := limbs_decval _ hB
            simp [encNat, hneg]
            refine oks_callz [] .wide [.bool (rpNeg s), encNat (decval (rpA s)), encNat (decval (rpB s))] (t_make (rpNeg s) _ _ (by omega) (by omega)) (by simp) (by simp; rfl) (by simp [encNat]) ?_
            rintro _ rfl
            refine oks_vc .wide ?_
            by_cases hz : decval (rpB s) = 0
            · simp [makeP, hz, encRat]
              refine oks_skipc .wide (by simp) (oks_vc .wide ?_)
              simp
              exact hK _ _ (no (by simp [rOk, hz]) e3).symm (by simp [encRat, limbs_zero])
            · have hl := lowN_len (rpNeg s) (decval (rpA s)) (decval (rpB s)) 1200 (by omega) (by omega)
              have ev : encR (lowN (rpNeg s) (decval (rpA s)) (decval (rpB s))) = encR (rval s) := rfl
              have hr : ratT' (lowN (rpNeg s) (decval (rpA s)) (decval (rpB s))) = ratT (rval s).1 (rval s).2.1 (rval s).2.2 := rfl
              have hl' : (limbs (rval s).2.1).length ≤ 1200 ∧ (limbs (rval s).2.2).length ≤ 1200 := hl
              rw [makeP, if_neg hz, lowP_eq, ev]
              simp [encR, encRat]
              refine oks_callz [] .wide [encRat (rval s).1 (rval s).2.1 (rval s).2.2] (t_rtext _ _ _ (by omega) (by omega)) (by simp) (by simp; rfl) (by simp [encRat]) ?_
              rintro _ rfl
              refine oks_vc .wide ?_
              by_cases he : ratT (rval s).1 (rval s).2.1 (rval s).2.2 = s
              · simp [he]
                exact hK _ _ (yes (by simp [rOk, hA, hB, hz, hr, he, lA2, lB2])).symm (by simp [encR, encRat])
              · simp [he]
                refine hK (.tup [.agg [.bool false, .sl none 0 [] [], .sl none 0 [] []], .int .i64 3]) _ (no ?_ e3).symm (by simp [encRat, limbs_zero])
                simp [rOk, hA, hB, hz, hr, he]
          · have e2 : rErr s = 2 := by simp [rErr, hA, hB, show 1200 < (rpB s).length by omega]
            rw [pLim _ lB2 hB]
            simp [encNat]
            exact hK _ _ (lim (by simp [rOk, lB2]) e2).symm (by simp [encRat, limbs_zero])
        · rw [pNo _ hB]
          simp [encNat]
          exact hK _ _ (no (by simp [rOk, hB]) (by simp [rErr, hB])).symm (by simp [encRat, limbs_zero])
      · rw [pLim _ lA2 hA]
        simp [encNat]
        refine oks_callz [] .wide [.str [49]] hcB (by simp) (by simp; rfl) (by simp) ?_
        rintro _ rfl
        refine oks_vc .wide ?_
        by_cases hB : isNum (rpB s) = true
        · have e2 : rErr s = 2 := by simp [rErr, hA, hB, show 1200 < (rpA s).length by omega]
          by_cases lB2 : (rpB s).length ≤ 1200
          · rw [pOk _ lB2 hB]
            simp [encNat]
            exact hK _ _ (lim (by simp [rOk, lA2]) e2).symm (by simp [encRat, limbs_zero])
          · rw [pLim _ lB2 hB]
            simp [encNat]
            exact hK _ _ (lim (by simp [rOk, lA2]) e2).symm (by simp [encRat, limbs_zero])
        · rw [pNo _ hB]
          simp [encNat]
          exact hK _ _ (no (by simp [rOk, hB]) (by simp [rErr, hB])).symm (by simp [encRat, limbs_zero])
    · have e3 : rErr s = 3 := by simp [rErr, hA]
      rw [pNo _ hA]
      simp [encNat]
      refine oks_callz [] .wide [.str [49]] hcB (by simp) (by simp; rfl) (by simp) ?_
      rintro _ rfl
      refine oks_vc .wide ?_
      by_cases hB : isNum (rpB s) = true
      · by_cases lB2 : (rpB s).length ≤ 1200
        · rw [pOk _ lB2 hB]
          simp [encNat]
          exact hK _ _ (no (by simp [rOk, hA]) e3).symm (by simp [encRat, limbs_zero])
        · rw [pLim _ lB2 hB]
          simp [encNat]
          exact hK _ _ (no (by simp [rOk, hA]) e3).symm (by simp [encRat, limbs_zero])
      · rw [pNo _ hB]
        simp [encNat]
        exact hK _ _ (no (by simp [rOk, hA]) e3).symm (by simp [encRat, limbs_zero])
end Go.Dl
