/- Contracts of hornbeamref1: Sub, DivMod, Gcd. Contracts of hornbeamref1: Gcd, Make, Text. Contracts of hornbeamref1: Parse. Contracts of hornbeamref1: RatText. -/
import Derived.Test.YtjmhdfcmghmgjaaDoorA11
set_option linter.unusedVariables false
set_option linter.unusedSimpArgs false
set_option maxRecDepth 1000000
namespace Go.Dl
open Go.Proofs

theorem sub_digD (x t y : Nat) (hx : x < 10000) (ht : t ≤ 1) (hy : y < 10000) : ∃ (D1 D2 : Int) (n t' : Nat), evBin .sub (.int .i64 (U x)) (.int .i64 (U t)) = some (.int .i64 D1) ∧ evBin .sub (.int .i64 D1) (.int .i64 (U y)) = some (.int .i64 D2) ∧ (y = 0 → D1 = D2) ∧
    ((D2 < 0 ∧ evBin .add (.int .i64 D2) (.int .i64 10000) = some (.int .i64 (U n)) ∧ t' = 1) ∨ (¬ D2 < 0 ∧ D2 = U n ∧ t' = 0)) ∧ n + t + y = x + 10000 * t' ∧ n < 10000 := by
  refine ⟨(x : Int) - t, (x : Int) - t - y, if x < t + y then x + 10000 - t - y else x - t - y, if x < t + y then 1 else 0, ?_, ?_, fun h => by omega, ?_, ?_, ?_⟩
  · simp only [evBin, if_true]; unfold U; rw [wrap_i64 (by omega)]
  · simp only [evBin, if_true]; unfold U; rw [wrap_i64 (by omega)]
  · by_cases h : x < t + y
    · left
      refine ⟨by omega, ?_, by rw [if_pos h]⟩
      simp only [evBin, if_true]; unfold U; rw [wrap_i64 (by omega), if_pos h]; congr 2; omega
    · right
      refine ⟨by omega, ?_, by rw [if_neg h]⟩
      rw [if_neg h]; unfold U; omega
  · split <;> omega
  · split <;> omega

def rsObj : List Nat → DV × List (Nat × Ob)
  | [] => (.p (.sl (some true) 0 [] []), [])
  | d :: r => (.own 38 1 0 (d :: r).length (d :: r).length, [(38, ⟨false, 1, .p (encD (d :: r))⟩)])
def rsI (A B : List Nat) (y : Nat × Nat × List Nat) : St := ⟨41, [(7, .p (.int .i64 (y.1 : Int))), (6, .p (.int .i64 (U y.2.1))), (5, (rsObj y.2.2).1), (0, .p (.sl none 1 (encD A) [])), (1, .p (.sl none 1 (encD B) []))], (rsObj y.2.2).2⟩

theorem sub_stepD {o bt at' t t' n x y P : Nat} (h : o + bt = at' + t * P) (hd : n + t + y = x + 10000 * t') : o + P * n + (bt + P * y) = at' + P * x + t' * (P * 10000) := by
  have h1 : P * (n + t + y) = P * (x + 10000 * t') := by rw [hd]
  simp only [Nat.mul_add] at h1
  rw [Nat.mul_comm t P] at h
  have e1 : t' * (P * 10000) = P * (10000 * t') := by rw [Nat.mul_comm t', Nat.mul_assoc]
  rw [e1]
  omega

theorem r_sub (a b : List Nat) (ha : OkLD a) (hb : OkLD b) (la : a.length ≤ 900000) (lb : b.length ≤ 900000) (hle : valD b ≤ valD a) : PCall Tryd.prog 113 [.sl none 1 (encD a) [], .sl none 1 (encD b) []] (· = pD (valD a - valD b)) := by
  have U1 : U 1 = 1 := rfl
  refine pcall_vcz c_rsub (by simp [c_rsub]) fun x K hK => ?_
  simp [c_rsub]
  refine vc_loop .wide (rsI a b) (fun y => y.1 ≤ a.length ∧ y.2.1 ≤ 1 ∧ OkLD y.2.2 ∧ y.2.2.length = y.1 ∧ valD y.2.2 + valD (b.take y.1) = valD (a.take y.1) + y.2.1 * 10000 ^ y.1) (fun y => a.length - y.1)
    ⟨0, 0, []⟩ ⟨by simp, by simp, by simp [OkLD], rfl, by simp [valD]⟩ (sub_iff (by simp [rsI, rsObj])) ?_
  rintro ⟨i, t, out⟩ ⟨h1, h2, h3, h4, h5⟩ Q k1 k2
  simp only at h1 h2 h3 h4 h5
  by_cases hi : i = a.length
  · subst hi
    have hv : valD out = valD a - valD b := by
      rw [List.take_length] at h5
      have hbt : valD (b.take a.length) = valD b := by
        by_cases hl : b.length ≤ a.length
        · rw [List.take_of_length_le hl]
        · have e1 := val_splitD b a.length (by omega)
          have e2 := val_ltD ha
          rcases Nat.eq_zero_or_pos (valD (b.drop a.length)) with hz | hz
          · rw [hz] at e1; omega
          · have := Nat.le_mul_of_pos_right (10000 ^ a.length) hz
            omega
      have h6 := val_ltD h3
      rw [h4] at h6
      rw [hbt] at h5
      have ht : t = 0 := by
        rcases Nat.eq_zero_or_pos t with h | h
        · exact h
        · have : t = 1 := by omega
          subst this
          omega
      subst ht
      omega
    cases out with
    | nil =>
      simp [rsI, rsObj]
      refine k2 _ _ (by simp) ?_
      simp
      refine oks_callz [] .wide [.sl none 1 (encD []) []] (r_trim none [] (by simp [OkLD]) (by simp)) (by simp) (by simp; rfl) (by simp) ?_
      rintro _ rfl
      refine oks_vc .wide ?_
      rw [hv]
      simp
      exact hK _ _ rfl (by simp [pD])
    | cons d r =>
      simp [rsI, rsObj]
      refine k2 _ _ (by simp) ?_
      simp
      refine oks_callz [38] .wide [.sl none 1 (encD (d :: r)) []] (r_trim none (d :: r) h3 (by omega)) (by simp) (by simp; rfl) (by simp; exact List.take_of_length_le (by simp)) ?_
      rintro _ rfl
      refine oks_vc .wide ?_
      rw [hv]
      simp
      exact hK _ _ rfl (by simp [pD])
  · have hlt : i < a.length := by omega
    have hx : a[i] < 10000 := ha _ (List.getElem_mem hlt)
    have hwi : IntKind.i64.wrap ((i : Int) + 1) = (i : Int) + 1 := wrap_i64 (by omega)
    have okap : ∀ n, n < 10000 → OkLD (out ++ [n]) := fun n hn d hd => by
      rcases List.mem_append.1 hd with hd | hd
      · exact h3 d hd
      · simp at hd; omega
    have vap : ∀ n, valD (out ++ [n]) = valD out + 10000 ^ i * n := fun n => by rw [val_appendD, h4]; simp [valD]
    by_cases hib : i < b.length
    · have hy : b[i] < 10000 := hb _ (List.getElem_mem hib)
      obtain ⟨D1, D2, n, t', e1, e2, _, e3, e4, e5⟩ := sub_digD a[i] t b[i] hx h2 hy
      have hst := sub_stepD h5 e4
      rw [← val_take_succD a i hlt, ← val_take_succD b i hib, ← Nat.pow_succ, ← vap] at hst
      rcases e3 with ⟨f1, f2, f3⟩ | ⟨f1, f2, f3⟩
      · cases out with
        | nil =>
          simp [rsI, rsObj, hlt, hib, e1, e2, f1, f2, hwi, maxLen_eq]
          refine k1 _ (i + 1, 1, [n]) ⟨by omega, by simp, okap n e5, by simp at h4 ⊢; omega, by rw [f3] at hst; exact hst⟩ (by simp only; omega) (sub_iff (by simp [rsI, rsObj, encD, U1]))
        | cons d r =>
          have b1 : (r.length + 1 + 1) * 8 ≤ 140737488355328 := by simp at h4; omega
          have b2 : r.length + 1 + 1 ≤ 9223372036854775807 := by simp at h4; omega
          simp [rsI, rsObj, hlt, hib, e1, e2, f1, f2, hwi, maxLen_eq, b1, b2]
          refine k1 _ (i + 1, 1, d :: r ++ [n]) ⟨by omega, by simp, okap n e5, by simp at h4 ⊢; omega, by rw [f3] at hst; exact hst⟩ (by simp only; omega) (sub_iff (by simp [rsI, rsObj, encD, U1]; exact List.take_of_length_le (by simp)))
      · cases out with
        | nil =>
          simp [rsI, rsObj, hlt, hib, e1, e2, f1, hwi, maxLen_eq]
          refine k1 _ (i + 1, 0, [n]) ⟨by omega, by simp, okap n e5, by simp at h4 ⊢; omega, by rw [f3] at hst; exact hst⟩ (by simp only; omega) (sub_iff (by simp [rsI, rsObj, encD, f2]))
        | cons d r =>
          have b1 : (r.length + 1 + 1) * 8 ≤ 140737488355328 := by simp at h4; omega
          have b2 : r.length + 1 + 1 ≤ 9223372036854775807 := by simp at h4; omega
          simp [rsI, rsObj, hlt, hib, e1, e2, f1, hwi, maxLen_eq, b1, b2]
          refine k1 _ (i + 1, 0, d :: r ++ [n]) ⟨by omega, by simp, okap n e5, by simp at h4 ⊢; omega, by rw [f3] at hst; exact hst⟩ (by simp only; omega) (sub_iff (by simp [rsI, rsObj, encD, f2]; exact List.take_of_length_le (by simp)))
    · obtain ⟨D1, D2, n, t', e1, _, e0, e3, e4, e5⟩ := sub_digD a[i] t 0 hx h2 (by decide)
      have e0 := e0 rfl
      subst e0
      have hbt : valD (b.take (i + 1)) = valD (b.take i) := by rw [List.take_of_length_le (by omega), List.take_of_length_le (by omega)]
      have hst := sub_stepD h5 e4
      rw [Nat.mul_zero, Nat.add_zero, ← val_take_succD a i hlt, ← hbt, ← Nat.pow_succ, ← vap] at hst
      rcases e3 with ⟨f1, f2, f3⟩ | ⟨f1, f2, f3⟩
      · cases out with
        | nil =>
          simp [rsI, rsObj, hlt, hib, e1, f1, f2, hwi, maxLen_eq]
          refine k1 _ (i + 1, 1, [n]) ⟨by omega, by simp, okap n e5, by simp at h4 ⊢; omega, by rw [f3] at hst; exact hst⟩ (by simp only; omega) (sub_iff (by simp [rsI, rsObj, encD, U1]))
        | cons d r =>
          have b1 : (r.length + 1 + 1) * 8 ≤ 140737488355328 := by simp at h4; omega
          have b2 : r.length + 1 + 1 ≤ 9223372036854775807 := by simp at h4; omega
          simp [rsI, rsObj, hlt, hib, e1, f1, f2, hwi, maxLen_eq, b1, b2]
          refine k1 _ (i + 1, 1, d :: r ++ [n]) ⟨by omega, by simp, okap n e5, by simp at h4 ⊢; omega, by rw [f3] at hst; exact hst⟩ (by simp only; omega) (sub_iff (by simp [rsI, rsObj, encD, U1]; exact List.take_of_length_le (by simp)))
      · cases out with
        | nil =>
          simp [rsI, rsObj, hlt, hib, e1, f1, hwi, maxLen_eq]
          refine k1 _ (i + 1, 0, [n]) ⟨by omega, by simp, okap n e5, by simp at h4 ⊢; omega, by rw [f3] at hst; exact hst⟩ (by simp only; omega) (sub_iff (by simp [rsI, rsObj, encD, f2]))
        | cons d r =>
          have b1 : (r.length + 1 + 1) * 8 ≤ 140737488355328 := by simp at h4; omega
          have b2 : r.length + 1 + 1 ≤ 9223372036854775807 := by simp at h4; omega
          simp [rsI, rsObj, hlt, hib, e1, f1, hwi, maxLen_eq, b1, b2]
          refine k1 _ (i + 1, 0, d :: r ++ [n]) ⟨by omega, by simp, okap n e5, by simp at h4 ⊢; omega, by rw [f3] at hst; exact hst⟩ (by simp only; omega) (sub_iff (by simp [rsI, rsObj, encD, f2]; exact List.take_of_length_le (by simp)))

theorem evi_half (a : Nat) (h : a < 9223372036854775808) : evBin .quo (.int .i64 (U a)) (.int .i64 2) = some (.int .i64 (U (a / 2))) := by
  simp only [evBin, if_true]; unfold U
  rw [if_neg (by decide), Int.tdiv_eq_ediv_of_nonneg (by omega), wrap_i64 (by omega)]; congr 2
theorem evi_inc (a : Nat) (h : a + 1 < 9223372036854775808) : evBin .add (.int .i64 (U a)) (.int .i64 1) = some (.int .i64 (U (a + 1))) := evi_add a 1 h
theorem evi_dec (a : Nat) (h : 1 ≤ a) (h' : a < 9223372036854775808) : evBin .sub (.int .i64 (U a)) (.int .i64 1) = some (.int .i64 (U (a - 1))) := evi_sub a 1 h h'
theorem cmp_leq (a b : Nat) : (cmpI a b ≤ 0) ↔ a ≤ b := by
  unfold cmpI
  by_cases h1 : a < b
  · simp [h1]; omega
  · by_cases h2 : a = b
    · simp [h2]
    · simp [h1, h2]; omega
theorem okD1 {m : Nat} (h : m < 10000) : OkLD [m] := by intro d hd; simp at hd; omega

def rdR (R : Nat) : DV := .p (if R = 0 then .sl (some true) 0 [] [] else pD R)
def rdI (A B : List Nat) (f : Bool) (y : Nat × List Nat × Nat) : St := ⟨62, [(8, .p (.int .i64 ((y.1 : Int) - 1))), (7, .p (if f then pD y.2.2 else .sl (some true) 0 [] [])), (6, .own 14 1 0 A.length A.length), (0, .p (.sl none 1 (encD A) [])), (1, .p (.sl none 1 (encD B) []))], [(14, ⟨false, 1, .p (encD y.2.1)⟩)]⟩
def rdJ (A B Q : List Nat) (j R : Nat) (z : Nat × Nat) : St := ⟨62, [(9, .p (.int .i64 (U z.1))), (10, .p (.int .i64 (U z.2))), (8, .p (.int .i64 (j : Int))), (7, .p (pD R)), (6, .own 14 1 0 A.length A.length), (0, .p (.sl none 1 (encD A) [])), (1, .p (.sl none 1 (encD B) []))], [(14, ⟨false, 1, .p (encD Q)⟩)]⟩

set_option maxHeartbeats 2000000 in
theorem r_divmod (a b : List Nat) (ha : OkLD a) (hb : OkLD b) (la : a.length ≤ 100000) (lb : b.length ≤ 100000) (hb0 : valD b ≠ 0) : PCall Tryd.prog 100 [.sl none 1 (encD a) [], .sl none 1 (encD b) []] (· = .tup [pD (valD a / valD b), pD (valD a % valD b)]) := by
  refine pcall_vcz c_rdivmod (by simp [c_rdivmod]) fun x K hK => ?_
  have hV0 : 0 < valD b := Nat.pos_of_ne_zero hb0
  have hVW := val_ltD hb
  have b1 : a.length * 8 ≤ 281474976710656 := by omega
  have b2 : a.length ≤ 9223372036854775807 := by omega
  have hrep : List.replicate a.length [PV.int .i64 0] = encD (List.replicate a.length 0) := by simp [encD]
  have hw1 : IntKind.i64.wrap ((a.length : Int) - 1) = (a.length : Int) - 1 := wrap_i64 (by omega)
  have U9999 : U 9999 = 9999 := rfl
  have U1 : U 1 = 1 := rfl
  simp [c_rdivmod, b1, b2, hrep, hw1]
  refine vc_loop .wide (fun y : Bool × Nat × List Nat × Nat => rdI a b y.1 y.2) (fun y => y.2.1 ≤ a.length ∧ OkLD y.2.2.1 ∧ y.2.2.1.length = a.length ∧ y.2.2.2 < valD b ∧ valD (a.drop y.2.1) = valD (y.2.2.1.drop y.2.1) * valD b + y.2.2.2 ∧ (y.1 = false → y.2.2.2 = 0)) (fun y => y.2.1)
    ⟨false, a.length, List.replicate a.length 0, 0⟩ ⟨Nat.le_refl _, by simp [OkLD], by simp, hV0, by simp [valD], by simp⟩ (sub_iff (by simp [rdI])) ?_
  rintro ⟨f, k, q, R⟩ ⟨h1, h2, h3, h4, h5, h6⟩ Q k1 k2
  simp only at h1 h2 h3 h4 h5 h6
  have lR : (limbsD R).length ≤ b.length := by
    have := limbs_monoD (Nat.le_of_lt h4)
    have := limbs_len_leD hb
    omega
  by_cases hk : k = 0
  · subst hk
    simp at h5
    have e1 : valD a / valD b = valD q := by
      rw [h5, Nat.add_comm, Nat.add_mul_div_right _ _ hV0, Nat.div_eq_of_lt h4, Nat.zero_add]
    have e2 : valD a % valD b = R := by
      rw [h5, Nat.add_comm, Nat.add_mul_mod_self_right, Nat.mod_eq_of_lt h4]
    cases f with
    | false =>
      have h6 := h6 rfl
      subst h6
      simp [rdI]
      refine k2 _ _ (by simp) ?_
      simp
      refine oks_callz [14] .wide [.sl none 1 (encD q) []] (r_trim none q h2 (by omega)) (by simp) (by simp [h3]; rfl) (by simp; exact List.take_of_length_le (by simp [h3])) ?_
      rintro _ rfl
      refine oks_vc .wide ?_
      rw [← e1]
      simp
      exact hK _ _ rfl (by simp [pD, e2, limbs_zeroD])
    | true =>
      simp [rdI, pD]
      refine k2 _ _ (by simp) ?_
      simp
      refine oks_callz [14] .wide [.sl none 1 (encD q) []] (r_trim none q h2 (by omega)) (by simp) (by simp [h3]; rfl) (by simp; exact List.take_of_length_le (by simp [h3])) ?_
      rintro _ rfl
      refine oks_vc .wide ?_
      rw [← e1]
      simp
      exact hK _ _ rfl (by simp [pD, e2])
  · obtain ⟨j, rfl⟩ : ∃ j, k = j + 1 := ⟨k - 1, by omega⟩
    have hj : j < a.length := by omega
    have hx : a[j] < 10000 := ha _ (List.getElem_mem hj)
    have okR : OkLD (a[j] :: limbsD R) := by
      intro d hd
      rcases List.mem_cons.1 hd with rfl | hd
      · exact hx
      · exact limbs_okD R d hd
    obtain ⟨R', hR'⟩ : ∃ R', R' = a[j] + 10000 * R := ⟨_, rfl⟩
    have vR' : valD (a[j] :: limbsD R) = R' := by rw [valD, val_limbsD, hR']
    have hR'lt : R' < 10000 * valD b := by omega
    have hlenR' : (limbsD R').length ≤ b.length + 1 := by
      have := limbs_len_leD okR
      rw [vR'] at this
      simp at this
      omega
    have hwj : IntKind.i64.wrap ((j : Int) - 1) = (j : Int) - 1 := wrap_i64 (by omega)
    have c1 : ((limbsD R).length + 1) * 8 ≤ 140737488355328 := by omega
    have c2 : (limbsD R).length + 1 ≤ 9223372036854775807 := by omega
    have c3 : 1 + (limbsD R).length ≤ 9223372036854775807 := by omega
    have c4 : (1 + (limbsD R).length) * 8 ≤ 140737488355328 := by omega
    have hfin : ∀ lo hi : Nat, lo = hi → valD b * lo ≤ R' → R' < valD b * (hi + 1) → lo = R' / valD b ∧ R' - valD b * lo = R' % valD b := by
      intro lo hi e g1 g2
      subst e
      have e1 : R' / valD b = lo := by
        refine Nat.div_eq_of_lt_le ?_ ?_
        · rw [Nat.mul_comm]; exact g1
        · rw [Nat.mul_comm]; exact g2
      refine ⟨e1.symm, ?_⟩
      have := Nat.div_add_mod R' (valD b)
      rw [e1] at this
      omega
    have hq5 : ∀ lo : Nat, lo = R' / valD b → valD (a.drop j) = valD ((q.set j lo).drop j) * valD b + R' % valD b := by
      intro lo hlo
      have hjq : j < q.length := by omega
      have hQ : (q.set j lo).drop j = lo :: q.drop (j + 1) := by
        rw [List.drop_eq_getElem_cons (by simpa using hjq)]
        simp [List.drop_set]
      have e2 := Nat.div_add_mod R' (valD b)
      rw [← hlo] at e2
      rw [List.drop_eq_getElem_cons hj, hQ, valD, valD, h5, Nat.add_mul, Nat.mul_add]
      have e3 : 10000 * (valD (q.drop (j + 1)) * valD b) = 10000 * valD (q.drop (j + 1)) * valD b := by rw [Nat.mul_assoc]
      rw [Nat.mul_comm (valD b) lo] at e2
      omega
    cases f with
    | false =>
      have h6 := h6 rfl
      subst h6
      simp [rdI, pD, hj]
      simp [hj, maxLen_eq]
      refine oks_callz [28] .wide [.sl none 1 (encD (a[j] :: limbsD 0)) []] (r_trim none _ okR (by simp; omega)) (by simp) (by simp; rfl) (by simp [encD, limbs_zeroD]) ?_
      rintro _ rfl
      refine oks_vc .wide ?_
      rw [vR']
      simp
      refine vc_loop .wide (rdJ a b q j R') (fun z => z.1 ≤ z.2 ∧ z.2 ≤ 9999 ∧ valD b * z.1 ≤ R' ∧ R' < valD b * (z.2 + 1)) (fun z => z.2 - z.1) (0, 9999) ⟨by simp, by simp, by simp, by simp only; omega⟩ (sub_iff (by simp [rdJ, pD, U9999])) ?_
      rintro ⟨lo, hi⟩ ⟨g1, g2, g3, g4⟩ Q' k1' k2'
      simp only at g1 g2 g3 g4
      by_cases hlh : lo < hi
      · obtain ⟨m, hm⟩ : ∃ m, m = (lo + hi + 1) / 2 := ⟨_, rfl⟩
        have e1 := evi_add lo hi (by omega)
        have e2 := evi_inc (lo + hi) (by omega)
        have e3 := evi_half (lo + hi + 1) (by omega)
        rw [← hm] at e3
        have e4 := evi_dec m (by omega) (by omega)
        have hmul := r_mul b [m] hb (okD1 (by omega)) (by omega) (by simp)
        have hv1 : valD [m] = m := by simp [valD]
        rw [hv1] at hmul
        have hcl : (limbsD (valD b * m)).length ≤ 1000000 := by
          have h8 : valD b * m < 10000 ^ (b.length + 1) := by
            rw [Nat.pow_succ]
            exact Nat.lt_of_le_of_lt (Nat.mul_le_mul_left _ (show m ≤ 10000 by omega)) (Nat.mul_lt_mul_of_pos_right hVW (by decide))
          have h9 := limbs_geD (valD b * m)
          rcases Nat.eq_zero_or_pos (limbsD (valD b * m)).length with h | h
          · omega
          · have h9 := h9 ((limbsD (valD b * m)).length - 1) (by omega)
            have := (Nat.pow_lt_pow_iff_right (by decide : 1 < 10000)).1 (Nat.lt_of_le_of_lt h9 h8)
            omega
        have hcmp := r_cmp (limbsD (valD b * m)) (limbsD R') (limbs_okD _) (limbs_okD _) hcl (by omega)
        rw [val_limbsD, val_limbsD] at hcmp
        simp [rdJ, pD, hlh, e1, e2, e3]
        refine oks_callz [40] .wide [.sl none 1 (encD b) [], .sl none 1 (encD [m]) []] hmul (by simp) (by simp; rfl) (by simp [encD]) ?_
        rintro _ rfl
        refine oks_vc .wide ?_
        simp [pD]
        refine oks_callz [] .wide [.sl none 1 (encD (limbsD (valD b * m))) [], .sl none 1 (encD (limbsD R')) []] hcmp (by simp) (by simp; rfl) (by simp) ?_
        rintro _ rfl
        refine oks_vc .wide ?_
        by_cases hc : valD b * m ≤ R'
        · have hc' := (cmp_leq _ _).2 hc
          simp [hc']
          exact k1' _ (m, hi) ⟨by omega, g2, hc, g4⟩ (by simp only; omega) (sub_iff (by simp [rdJ, pD]))
        · have hc' : ¬ cmpI (valD b * m) R' ≤ 0 := fun h => hc ((cmp_leq _ _).1 h)
          simp [hc', e4]
          exact k1' _ (lo, m - 1) ⟨by omega, by omega, g3, by simp only; rw [show m - 1 + 1 = m by omega]; omega⟩ (by simp only; omega) (sub_iff (by simp [rdJ, pD]))
      · obtain ⟨f1, f2⟩ := hfin lo hi (by omega) g3 g4
        have hlo : lo < 10000 := by omega
        have hqj : q[j]? = some (q[j]'(by omega)) := List.getElem?_eq_getElem _
        have htl : (limbsD lo).length ≤ 1 := by have := limbs_len_leD (okD1 hlo); simpa [valD] using this
        have htrim := r_trim none [lo] (okD1 hlo) (by simp)
        rw [show valD [lo] = lo by simp [valD]] at htrim
        have hmul := r_mul b (limbsD lo) hb (limbs_okD lo) (by omega) (by omega)
        rw [val_limbsD] at hmul
        have hsl : (limbsD (valD b * lo)).length ≤ 900000 := Nat.le_trans (limbs_monoD g3) (by omega)
        have hsub := r_sub (limbsD R') (limbsD (valD b * lo)) (limbs_okD _) (limbs_okD _) (by omega) hsl (by rw [val_limbsD, val_limbsD]; exact g3)
        rw [val_limbsD, val_limbsD, f2] at hsub
        simp [rdJ, pD, hlh]
        refine k2' _ _ (by simp) ?_
        simp [hj, hqj]
        refine oks_callz [55] .wide [.sl none 1 (encD [lo]) []] htrim (by simp) (by simp; rfl) (by simp [encD]) ?_
        rintro _ rfl
        refine oks_vc .wide ?_
        simp
        refine oks_callz [] .wide [.sl none 1 (encD b) [], .sl none 1 (encD (limbsD lo)) []] hmul (by simp) (by simp; rfl) (by simp) ?_
        rintro _ rfl
        refine oks_vc .wide ?_
        simp [pD]
        refine oks_callz [] .wide [.sl none 1 (encD (limbsD R')) [], .sl none 1 (encD (limbsD (valD b * lo))) []] hsub (by simp) (by simp; rfl) (by simp) ?_
        rintro _ rfl
        refine oks_vc .wide ?_
        simp [pD, hwj]
        refine k1 _ (true, j, q.set j lo, R' % valD b) ⟨by simp only; omega, set_okD h2 hlo, by simp [h3], Nat.mod_lt _ hV0, hq5 lo f1, by simp⟩ (by simp) (sub_iff (by simp [rdI, pD]))
    | true =>
      skip
      simp [rdI, pD, hj]
      simp [hj, maxLen_eq, c1, c2, c3, c4]
      refine oks_callz [28] .wide [.sl none 1 (encD (a[j] :: limbsD R)) []] (r_trim none _ okR (by simp; omega)) (by simp) (by simp [show 1 + (limbsD R).length ≤ (limbsD R).length + 1 by omega]; rfl) (by simp [encD]; rw [Nat.add_comm 1, List.take_succ_cons, List.take_of_length_le (by simp)]) ?_
      rintro _ rfl
      refine oks_vc .wide ?_
      rw [vR']
      simp
      refine vc_loop .wide (rdJ a b q j R') (fun z => z.1 ≤ z.2 ∧ z.2 ≤ 9999 ∧ valD b * z.1 ≤ R' ∧ R' < valD b * (z.2 + 1)) (fun z => z.2 - z.1) (0, 9999) ⟨by simp, by simp, by simp, by simp only; omega⟩ (sub_iff (by simp [rdJ, pD, U9999])) ?_
      rintro ⟨lo, hi⟩ ⟨g1, g2, g3, g4⟩ Q' k1' k2'
      simp only at g1 g2 g3 g4
      by_cases hlh : lo < hi
      · obtain ⟨m, hm⟩ : ∃ m, m = (lo + hi + 1) / 2 := ⟨_, rfl⟩
        have e1 := evi_add lo hi (by omega)
        have e2 := evi_inc (lo + hi) (by omega)
        have e3 := evi_half (lo + hi + 1) (by omega)
        rw [← hm] at e3
        have e4 := evi_dec m (by omega) (by omega)
        have hmul := r_mul b [m] hb (okD1 (by omega)) (by omega) (by simp)
        have hv1 : valD [m] = m := by simp [valD]
        rw [hv1] at hmul
        have hcl : (limbsD (valD b * m)).length ≤ 1000000 := by
          have h8 : valD b * m < 10000 ^ (b.length + 1) := by
            rw [Nat.pow_succ]
            exact Nat.lt_of_le_of_lt (Nat.mul_le_mul_left _ (show m ≤ 10000 by omega)) (Nat.mul_lt_mul_of_pos_right hVW (by decide))
          have h9 := limbs_geD (valD b * m)
          rcases Nat.eq_zero_or_pos (limbsD (valD b * m)).length with h | h
          · omega
          · have h9 := h9 ((limbsD (valD b * m)).length - 1) (by omega)
            have := (Nat.pow_lt_pow_iff_right (by decide : 1 < 10000)).1 (Nat.lt_of_le_of_lt h9 h8)
            omega
        have hcmp := r_cmp (limbsD (valD b * m)) (limbsD R') (limbs_okD _) (limbs_okD _) hcl (by omega)
        rw [val_limbsD, val_limbsD] at hcmp
        simp [rdJ, pD, hlh, e1, e2, e3]
        refine oks_callz [40] .wide [.sl none 1 (encD b) [], .sl none 1 (encD [m]) []] hmul (by simp) (by simp; rfl) (by simp [encD]) ?_
        rintro _ rfl
        refine oks_vc .wide ?_
        simp [pD]
        refine oks_callz [] .wide [.sl none 1 (encD (limbsD (valD b * m))) [], .sl none 1 (encD (limbsD R')) []] hcmp (by simp) (by simp; rfl) (by simp) ?_
        rintro _ rfl
        refine oks_vc .wide ?_
        by_cases hc : valD b * m ≤ R'
        · have hc' := (cmp_leq _ _).2 hc
          simp [hc']
          exact k1' _ (m, hi) ⟨by omega, g2, hc, g4⟩ (by simp only; omega) (sub_iff (by simp [rdJ, pD]))
        · have hc' : ¬ cmpI (valD b * m) R' ≤ 0 := fun h => hc ((cmp_leq _ _).1 h)
          simp [hc', e4]
          exact k1' _ (lo, m - 1) ⟨by omega, by omega, g3, by simp only; rw [show m - 1 + 1 = m by omega]; omega⟩ (by simp only; omega) (sub_iff (by simp [rdJ, pD]))
      · obtain ⟨f1, f2⟩ := hfin lo hi (by omega) g3 g4
        have hlo : lo < 10000 := by omega
        have hqj : q[j]? = some (q[j]'(by omega)) := List.getElem?_eq_getElem _
        have htl : (limbsD lo).length ≤ 1 := by have := limbs_len_leD (okD1 hlo); simpa [valD] using this
        have htrim := r_trim none [lo] (okD1 hlo) (by simp)
        rw [show valD [lo] = lo by simp [valD]] at htrim
        have hmul := r_mul b (limbsD lo) hb (limbs_okD lo) (by omega) (by omega)
        rw [val_limbsD] at hmul
        have hsl : (limbsD (valD b * lo)).length ≤ 900000 := Nat.le_trans (limbs_monoD g3) (by omega)
        have hsub := r_sub (limbsD R') (limbsD (valD b * lo)) (limbs_okD _) (limbs_okD _) (by omega) hsl (by rw [val_limbsD, val_limbsD]; exact g3)
        rw [val_limbsD, val_limbsD, f2] at hsub
        simp [rdJ, pD, hlh]
        refine k2' _ _ (by simp) ?_
        simp [hj, hqj]
        refine oks_callz [55] .wide [.sl none 1 (encD [lo]) []] htrim (by simp) (by simp; rfl) (by simp [encD]) ?_
        rintro _ rfl
        refine oks_vc .wide ?_
        simp
        refine oks_callz [] .wide [.sl none 1 (encD b) [], .sl none 1 (encD (limbsD lo)) []] hmul (by simp) (by simp; rfl) (by simp) ?_
        rintro _ rfl
        refine oks_vc .wide ?_
        simp [pD]
        refine oks_callz [] .wide [.sl none 1 (encD (limbsD R')) [], .sl none 1 (encD (limbsD (valD b * lo))) []] hsub (by simp) (by simp; rfl) (by simp) ?_
        rintro _ rfl
        refine oks_vc .wide ?_
        simp [pD, hwj]
        refine k1 _ (true, j, q.set j lo, R' % valD b) ⟨by simp only; omega, set_okD h2 hlo, by simp [h3], Nat.mod_lt _ hV0, hq5 lo f1, by simp⟩ (by simp) (sub_iff (by simp [rdI, pD]))
end Go.Dl
set_option linter.unusedVariables false
set_option linter.unusedSimpArgs false
set_option maxRecDepth 1000000
namespace Go.Dl
open Go.Proofs

theorem limbs_nzD {n : Nat} : 0 < (limbsD n).length ↔ n ≠ 0 := by
  constructor
  · rintro h rfl; simp [limbs_zeroD] at h
  · intro h
    exact Nat.pos_of_ne_zero fun e => h (limbs_len_zeroD.1 e)

theorem r_gcd (a b : Nat) (ha : (limbsD a).length ≤ 100000) (hb : (limbsD b).length ≤ 100000) : PCall Tryd.prog 99 [pD a, pD b] (· = pD (Nat.gcd a b)) := by
  refine pcall_vcz c_rgcd (by simp [c_rgcd]) fun x K hK => ?_
  simp [c_rgcd, pD]
  refine vc_loop .wide (fun y : Nat × Nat => ⟨19, [(0, .p (pD y.1)), (1, .p (pD y.2))], []⟩) (fun y => (limbsD y.1).length ≤ 100000 ∧ (limbsD y.2).length ≤ 100000 ∧ Nat.gcd y.1 y.2 = Nat.gcd a b) (fun y => y.2) (a, b) ⟨ha, hb, rfl⟩ (sub_iff (by simp [pD])) ?_
  rintro ⟨u, v⟩ ⟨h1, h2, h3⟩ Q k1 k2
  simp only at h1 h2 h3
  by_cases hv : v = 0
  · subst hv
    rw [Nat.gcd_zero_right] at h3
    simp [pD, limbs_zeroD]
    refine k2 _ _ (by simp) ?_
    simp
    exact hK _ _ rfl (by simp [pD, h3])
  · have hpos := limbs_nzD.2 hv
    have hdm := r_divmod (limbsD u) (limbsD v) (limbs_okD u) (limbs_okD v) h1 h2 (by rw [val_limbsD]; exact hv)
    rw [val_limbsD, val_limbsD] at hdm
    simp [pD, hpos]
    refine oks_callz [] .wide [.sl none 1 (encD (limbsD u)) [], .sl none 1 (encD (limbsD v)) []] hdm (by simp) (by simp; rfl) (by simp) ?_
    rintro _ rfl
    refine oks_vc .wide ?_
    simp [pD]
    have hlt : u % v < v := Nat.mod_lt _ (by omega)
    refine k1 _ (v, u % v) ⟨h2, Nat.le_trans (limbs_monoD (Nat.le_of_lt hlt)) h2, ?_⟩ (by simpa using hlt) (sub_iff (by simp [pD]))
    rw [← h3]
    simp only
    rw [Nat.gcd_comm u v, Nat.gcd_rec v u, Nat.gcd_comm]

def rmakeP (neg : Bool) (n d : Nat) : PV := .agg [.bool (neg && decide (n / Nat.gcd n d ≠ 0)), pD (n / Nat.gcd n d), pD (d / Nat.gcd n d)]
theorem r_make (neg : Bool) (n d : Nat) (hd : d ≠ 0) (ln : (limbsD n).length ≤ 100000) (ld : (limbsD d).length ≤ 100000) : PCall Tryd.prog 76 [.bool neg, pD n, pD d] (· = rmakeP neg n d) := by
  refine pcall_vcz c_rmake (by simp [c_rmake]) fun x K hK => ?_
  have tn := r_trim none (limbsD n) (limbs_okD n) (by omega)
  have td := r_trim none (limbsD d) (limbs_okD d) (by omega)
  rw [val_limbsD] at tn td
  have hg0 : Nat.gcd n d ≠ 0 := fun e => hd (Nat.eq_zero_of_gcd_eq_zero_right e)
  have lg : (limbsD (Nat.gcd n d)).length ≤ 100000 := Nat.le_trans (limbs_monoD (Nat.gcd_le_right n (Nat.pos_of_ne_zero hd))) ld
  have d1 := r_divmod (limbsD n) (limbsD (Nat.gcd n d)) (limbs_okD _) (limbs_okD _) ln lg (by rw [val_limbsD]; exact hg0)
  have d2 := r_divmod (limbsD d) (limbsD (Nat.gcd n d)) (limbs_okD _) (limbs_okD _) ld lg (by rw [val_limbsD]; exact hg0)
  rw [val_limbsD, val_limbsD] at d1 d2
  simp [c_rmake, pD]
  refine oks_callz [] .wide [.sl none 1 (encD (limbsD n)) []] tn (by simp) (by simp; rfl) (by simp) ?_
  rintro _ rfl
  refine oks_vc .wide ?_
  simp
  refine oks_callz [] .wide [.sl none 1 (encD (limbsD d)) []] td (by simp) (by simp; rfl) (by simp) ?_
  rintro _ rfl
  refine oks_vc .wide ?_
  simp
  refine oks_callz [] .wide [pD n, pD d] (r_gcd n d ln ld) (by simp) (by simp; rfl) (by simp [pD]) ?_
  rintro _ rfl
  refine oks_vc .wide ?_
  simp [pD]
  refine oks_callz [] .wide [.sl none 1 (encD (limbsD n)) [], .sl none 1 (encD (limbsD (Nat.gcd n d))) []] d1 (by simp) (by simp; rfl) (by simp) ?_
  rintro _ rfl
  refine oks_vc .wide ?_
  simp [pD]
  refine oks_callz [] .wide [.sl none 1 (encD (limbsD d)) [], .sl none 1 (encD (limbsD (Nat.gcd n d))) []] d2 (by simp) (by simp; rfl) (by simp) ?_
  rintro _ rfl
  refine oks_vc .wide ?_
  have hp : decide (0 < (limbsD (n / Nat.gcd n d)).length) = decide (n / Nat.gcd n d ≠ 0) := decide_eq_decide.2 limbs_nzD
  cases neg
  · simp [pD]
    exact hK _ _ rfl (by simp [rmakeP, pD])
  · simp [pD, hp]
    exact hK _ _ rfl (by simp [rmakeP, pD])

/-! ### text -/
theorem lowD_exact : ∀ (n v : Nat), v < 10 ^ (n + 1) → 10 ^ n ≤ v → (lowD (n + 1) v).reverse.map UInt8.ofNat = decT v
  | 0, v, h1, h2 => by
    have : v < 10 := by simpa using h1
    rw [decT_lt this]
    simp [lowD, Nat.mod_eq_of_lt this]
  | n + 1, v, h1, h2 => by
    have h3 : 10 ^ (n + 1) = 10 * 10 ^ n := by rw [Nat.pow_succ, Nat.mul_comm]
    have h4 : 10 ^ (n + 1 + 1) = 10 * 10 ^ (n + 1) := by rw [Nat.pow_succ, Nat.mul_comm]
    have hp : 0 < 10 ^ n := Nat.pow_pos (by decide)
    have ih := lowD_exact n (v / 10) (by omega) (by omega)
    rw [lowD, List.reverse_cons, List.map_append, ih, decT_ge (show ¬ v < 10 by omega)]
    rfl
def sT (n v : Nat) : List UInt8 := (lowD n v).reverse.map UInt8.ofNat
theorem sT_len (n v : Nat) : (sT n v).length = n := by simp [sT, lowD_len]
theorem sT_succ (n v : Nat) : sT (n + 1) v = UInt8.ofNat (48 + v / 10 ^ n % 10) :: sT n v := by
  unfold sT
  rw [lowD_snoc]
  simp
theorem digD (V i k : Nat) (hk : k < 4) : V / 10000 ^ i % 10000 / 10 ^ k % 10 = V / 10 ^ (4 * i + k) % 10 := by
  have e1 : (10000 : Nat) ^ i = 10 ^ (4 * i) := by rw [show (10000 : Nat) = 10 ^ 4 from rfl, ← Nat.pow_mul]
  have e2 : (10000 : Nat) = 10 ^ k * 10 ^ (4 - k) := by rw [← Nat.pow_add, show k + (4 - k) = 4 by omega]
  rw [e1, Nat.pow_add, ← Nat.div_div_eq_div_mul]
  generalize V / 10 ^ (4 * i) = u
  rw [e2, Nat.mod_mul_right_div_self, Nat.mod_mod_of_dvd]
  exact ⟨10 ^ (3 - k), by rw [show 4 - k = (3 - k) + 1 by omega, Nat.pow_succ, Nat.mul_comm]⟩
@[simp] theorem U_toNat (n : Nat) : (U n).toNat = n := by unfold U; omega
theorem evi_48 (d : Nat) (h : d < 10) : evBin .add (.int .i64 48) (.int .i64 (U d)) = some (.int .i64 (U (48 + d))) := evi_add 48 d (by omega)

def rtI (V : Nat) (y : Nat × List UInt8) : St := ⟨48, [(4, .p (.int .i64 (y.1 : Int))), (3, .p (.str y.2)), (0, .p (pD V))], []⟩
def rtJ (V i : Nat) (z : Nat × Nat × List UInt8) : St := ⟨48, [(6, .p (.int .i64 (z.1 : Int))), (5, .p (.int .i64 (U z.2.1))), (4, .p (.int .i64 (i : Int))), (3, .p (.str z.2.2)), (0, .p (pD V))], []⟩
theorem r_text (a : List Nat) (ha : OkLD a) (la : a.length ≤ 100000) : PCall Tryd.prog 49 [.sl none 1 (encD a) []] (· = .str (decT (valD a))) := by
  refine pcall_vcz c_rrtext (by simp [c_rrtext]) fun x K hK => ?_
  obtain ⟨V, hV⟩ : ∃ V, V = valD a := ⟨_, rfl⟩
  have lA := limbs_len_leD ha
  rw [← hV] at lA hK
  simp [c_rrtext]
  refine oks_callz [] .wide [.sl none 1 (encD a) []] (r_trim none a ha (by omega)) (by simp) (by simp; rfl) (by simp) ?_
  rintro _ rfl
  refine oks_vc .wide ?_
  rw [← hV]
  by_cases h0 : V = 0
  · subst h0
    simp [limbs_zeroD]
    exact hK _ _ rfl (by rw [decT_lt (by decide)]; simp)
  · have hpos := limbs_nzD.2 h0
    have hne : ¬ ((limbsD V).length : Int) = 0 := by omega
    have hnel : ¬ limbsD V = [] := fun e => by rw [e] at hpos; simp at hpos
    simp [hne, hnel]
    refine vc_loop .wide (rtI V) (fun y => y.1 ≤ (limbsD V).length ∧ (y.1 < (limbsD V).length → y.2 = sT (4 * y.1) V) ∧ (y.1 = (limbsD V).length → y.2 = decT V)) (fun y => (limbsD V).length - y.1) (0, [])
      ⟨by simp, fun _ => by simp [sT, lowD], fun h => by simp only at h; omega⟩ (sub_iff (by simp [rtI, pD])) ?_
    rintro ⟨i, s⟩ ⟨h1, h2, h3⟩ Q k1 k2
    simp only at h1 h2 h3
    by_cases hi : i = (limbsD V).length
    · have h3 := h3 hi
      subst hi
      simp [rtI, pD]
      refine k2 _ _ (by simp) ?_
      simp
      exact hK _ _ rfl (by simp [h3])
    · have hlt : i < (limbsD V).length := by omega
      have h2 := h2 hlt
      have hA : (limbsD V)[i] = V / 10000 ^ i % 10000 := by
        have := digit_eqD V i
        rw [List.getElem?_eq_getElem hlt] at this
        exact this
      have hAW : (limbsD V)[i] < 10000 := limbs_okD V _ (List.getElem_mem hlt)
      have hwi : IntKind.i64.wrap ((i : Int) + 1) = (i : Int) + 1 := wrap_i64 (by omega)
      have hlast : i + 1 = (limbsD V).length → ∀ k, (limbsD V)[i] / 10 ^ k = V / 10 ^ (4 * i + k) := by
        intro he k
        have hVW := limbs_ltD V
        rw [← he, Nat.pow_succ] at hVW
        have : V / 10000 ^ i < 10000 := (Nat.div_lt_iff_lt_mul (Nat.pow_pos (by decide))).2 (by rw [Nat.mul_comm]; exact hVW)
        rw [hA, Nat.mod_eq_of_lt this, Nat.pow_add, ← Nat.div_div_eq_div_mul, show (10000 : Nat) ^ i = 10 ^ (4 * i) by rw [show (10000 : Nat) = 10 ^ 4 from rfl, ← Nat.pow_mul]]
      simp [rtI, pD, hlt]
      refine vc_loop .wide (rtJ V i) (fun z => z.1 ≤ 4 ∧ z.2.1 = (limbsD V)[i] / 10 ^ z.1 ∧ z.2.2 = sT (4 * i + z.1) V ∧ (i + 1 = (limbsD V).length → z.1 = 0 ∨ 0 < V / 10 ^ (4 * i + z.1 - 1))) (fun z => 4 - z.1) (0, (limbsD V)[i], s)
        ⟨by simp, by simp, h2, fun _ => .inl rfl⟩ (sub_iff (by simp [rtJ, pD])) ?_
      rintro ⟨k, v, t⟩ ⟨j1, j2, j3, j4⟩ Q' k1' k2'
      simp only at j1 j2 j3 j4
      have hvb : v < 10000 := by rw [j2]; exact Nat.lt_of_le_of_lt (Nat.div_le_self _ _) hAW
      have hstep : k < 4 → (i + 1 < (limbsD V).length ∨ 0 < v) → Q' .normal ⟨48, [], []⟩ → True := fun _ _ _ => trivial
      have hd10 : v % 10 < 10 := Nat.mod_lt _ (by decide)
      have e1 := evi_48 (v % 10) hd10
      have e2 := evi_quo10 v (by omega)
      have hb256 : (48 + v % 10) % 256 = 48 + v % 10 := Nat.mod_eq_of_lt (by omega)
      have htl : t.length = 4 * i + k := by rw [j3, sT_len]
      have hcat : t.length + 1 ≤ 9223372036854775807 := by omega
      have hcat' : 1 + t.length ≤ 9223372036854775807 := by omega
      have hwk : IntKind.i64.wrap ((k : Int) + 1) = (k : Int) + 1 := wrap_i64 (by omega)
      have hnx : k < 4 → UInt8.ofNat (48 + v % 10) :: t = sT (4 * i + (k + 1)) V := by
        intro hk
        rw [show 4 * i + (k + 1) = (4 * i + k) + 1 by omega, sT_succ, ← j3, j2, hA, digD V i k hk]
      have hv10 : v / 10 = (limbsD V)[i] / 10 ^ (k + 1) := by rw [j2, Nat.div_div_eq_div_mul, Nat.pow_succ]
      by_cases hk4 : k = 4
      · subst hk4
        simp [rtJ, pD]
        refine k2' _ _ (by simp) ?_
        simp [hwi]
        refine k1 _ (i + 1, t) ⟨by omega, fun h => ?_, fun h => ?_⟩ (by simp only; omega) (sub_iff (by simp [rtI, pD]))
        · simp only; rw [j3, show 4 * (i + 1) = 4 * i + 4 by omega]
        · simp only at h ⊢
          have hz : V / 10 ^ (4 * i + 4) = 0 := by rw [← hlast h, Nat.div_eq_of_lt hAW]
          have hlt4 : V < 10 ^ (4 * i + 4) := Nat.lt_of_not_le fun hh => by have := Nat.div_pos hh (Nat.pow_pos (by decide)); omega
          rcases j4 h with h' | h'
          · omega
          · have hge : 10 ^ (4 * i + 3) ≤ V := Nat.le_of_not_lt fun hh => by rw [show 4 * i + 4 - 1 = 4 * i + 3 by omega, Nat.div_eq_of_lt hh] at h'; omega
            rw [j3]
            exact lowD_exact (4 * i + 3) V hlt4 hge
      · have hk : k < 4 := by omega
        have hki : (k : Int) < 4 := by omega
        by_cases hmore : i + 1 < (limbsD V).length
        · have hmi : (i : Int) + 1 < ((limbsD V).length : Int) := by omega
          simp [rtJ, pD, hki, hwi, hmi, evi_rem10, e1, hb256, e2, hcat, hcat', hwk]
          refine k1' _ (k + 1, v / 10, UInt8.ofNat (48 + v % 10) :: t) ⟨by omega, hv10, hnx hk, fun h => by omega⟩ (by simp only; omega) (sub_iff (by simp [rtJ, pD]))
        · have hmi : ¬ (i : Int) + 1 < ((limbsD V).length : Int) := by omega
          have hend : i + 1 = (limbsD V).length := by omega
          by_cases hv0 : 0 < v
          · simp [rtJ, pD, hki, hwi, hmi, hv0, evi_rem10, e1, hb256, e2, hcat, hcat', hwk]
            refine k1' _ (k + 1, v / 10, UInt8.ofNat (48 + v % 10) :: t) ⟨by omega, hv10, hnx hk, fun h => .inr ?_⟩ (by simp only; omega) (sub_iff (by simp [rtJ, pD]))
            simp only
            rw [show 4 * i + (k + 1) - 1 = 4 * i + k by omega, ← hlast hend, ← j2]
            exact hv0
          · have hv0' : v = 0 := by omega
            have hz : V / 10 ^ (4 * i + k) = 0 := by rw [← hlast hend, ← j2, hv0']
            have hltk : V < 10 ^ (4 * i + k) := Nat.lt_of_not_le fun hh => by have := Nat.div_pos hh (Nat.pow_pos (by decide)); omega
            simp [rtJ, pD, hki, hwi, hmi, hv0']
            refine k2' _ _ (by simp) ?_
            simp [hwi]
            refine k1 _ (i + 1, t) ⟨by omega, fun h => by simp only at h; omega, fun h => ?_⟩ (by simp only; omega) (sub_iff (by simp [rtI, pD]))
            simp only
            rcases j4 hend with h' | h'
            · exfalso
              subst h'
              have := limbs_topD V i hend.symm
              rw [List.getElem?_eq_getElem hlt] at this
              rw [hv0'] at j2
              simp at j2
              exact this (by rw [← j2])
            · obtain ⟨n, hn⟩ : ∃ n, 4 * i + k = n + 1 := ⟨4 * i + k - 1, by
                rcases Nat.eq_zero_or_pos (4 * i + k) with hh | hh
                · rw [hh] at hltk; simp at hltk; omega
                · omega⟩
              rw [hn] at h' hltk j3
              have hge : 10 ^ n ≤ V := Nat.le_of_not_lt fun hh => by rw [Nat.add_sub_cancel, Nat.div_eq_of_lt hh] at h'; omega
              rw [j3]
              exact lowD_exact n V hltk hge
end Go.Dl
set_option linter.unusedVariables false
set_option linter.unusedSimpArgs false
set_option maxRecDepth 1000000
namespace Go.Dl
open Go.Proofs

theorem decval_append (p : List UInt8) : ∀ q : List UInt8, decval (p ++ q) = decval p * 10 ^ q.length + decval q := by
  intro q
  obtain ⟨n, hn⟩ : ∃ n, q.length = n := ⟨_, rfl⟩
  induction n generalizing q with
  | zero => have := List.eq_nil_of_length_eq_zero hn; subst this; simp [decval]
  | succ n ih =>
    have hne : q ≠ [] := by rintro rfl; simp at hn
    rw [← List.dropLast_concat_getLast hne] at hn ⊢
    generalize q.dropLast = t at *
    generalize q.getLast hne = c at *
    have h := ih t (by simpa using hn)
    rw [← List.append_assoc, decval_app, h, decval_app, List.length_append, List.length_cons, List.length_nil, Nat.zero_add, Nat.pow_succ, Nat.add_mul, Nat.mul_assoc]
    omega

def rparseN (s : List UInt8) : PV := if isNum s then if s.length ≤ 1200 then .tup [pD (decval s), .int .i64 0] else .tup [pD 0, .int .i64 2] else .tup [pD 0, .int .i64 3]
def rpObj : List Nat → DV × List (Nat × Ob)
  | [] => (.p (.sl (some true) 0 [] []), [])
  | d :: r => (.own 65 1 0 (d :: r).length (d :: r).length, [(65, ⟨false, 1, .p (encD (d :: r))⟩)])
def rpI (s : List UInt8) (y : Int × List Nat) : St := ⟨68, [(6, .p (.int .i64 y.1)), (4, (rpObj y.2).1), (0, .p (.str s))], (rpObj y.2).2⟩
def rpJ (s : List UInt8) (e : Int) (a : List Nat) (z : Nat × Nat) : St := ⟨68, [(8, .p (.int .i64 (z.1 : Int))), (7, .p (.int .i64 (U z.2))), (6, .p (.int .i64 e)), (4, (rpObj a).1), (0, .p (.str s))], (rpObj a).2⟩

theorem all_take_succ (s : List UInt8) (i : Nat) (h : i < s.length) : (s.take (i + 1)).all isDig = ((s.take i).all isDig && isDig s[i]) := by
  rw [← List.take_append_getElem h, List.all_append]; simp

set_option maxHeartbeats 2000000 in
theorem r_parse (s : List UInt8) (hs : s.length ≤ 100000) : PCall Tryd.prog 75 [.str s] (· = rparseN s) := by
  refine pcall_vcz c_rrparse (by simp [c_rrparse]) fun x K hK => ?_
  have no : isNum s = false → K (.tup [.sl none 0 [] [], .int .i64 3]) := fun h => hK _ _ rfl (by simp [rparseN, h, pD, limbs_zeroD])
  cases s with
  | nil =>
    simp [c_rrparse]
    exact no rfl
  | cons b r =>
    have hu : (b.toNat : Int) = 48 ↔ b.toNat = 48 := by omega
    by_cases hbad : b.toNat = 48 ∧ r ≠ []
    · obtain ⟨h1, h2⟩ := hbad
      have hrl : 0 < r.length := List.length_pos_iff.2 h2
      have : isNum (b :: r) = false := by simp [isNum, h1, h2]
      simp [c_rrparse, h1, h2, hrl, show (1 : Int) < (r.length : Int) + 1 by omega]
      exact no this
    · have hok : (b :: r).all isDig = true → isNum (b :: r) = true := by
        intro h
        unfold isNum
        rw [h]
        by_cases h1 : b.toNat = 48
        · have h2 : r = [] := by
            rcases Classical.em (r = []) with h | h
            · exact h
            · exact (hbad ⟨h1, h⟩).elim
          have hb48 : b = 48 := UInt8.toNat_inj.1 (by rw [h1]; rfl)
          subst hb48 h2
          rfl
        · simp [h1]
      obtain ⟨s, hse⟩ : ∃ s, s = b :: r := ⟨_, rfl⟩
      rw [← hse] at hs hK no hok
      have hnd : ∀ i (h : i < s.length), isDig s[i] = false → isNum s = false := by
        intro i h hd
        have : s.all isDig = false := by
          rw [List.all_eq_false]
          exact ⟨_, List.getElem_mem h, by rw [hd]; simp⟩
        unfold isNum
        rw [this]; rfl
      have hslen : s.length = r.length + 1 := by rw [hse]; simp
      by_cases h1 : b.toNat = 48
      · have h2 : r = [] := by
          rcases Classical.em (r = []) with h | h
          · exact h
          · exact (hbad ⟨h1, h⟩).elim
        subst h2
        simp [c_rrparse, h1]
        simp only [← hse]
        refine vc_loop .wide (fun i : Nat => ⟨68, [(5, .p (.int .i64 (i : Int))), (4, .p (.sl (some true) 0 [] [])), (0, .p (.str s))], []⟩) (fun i => i ≤ s.length ∧ (s.take i).all isDig = true) (fun i => s.length - i) 0 ⟨by simp, by simp⟩ (sub_iff (by simp)) ?_
        rintro i ⟨i1, i2⟩ Q k1 k2
        by_cases hi : i = s.length
        · subst hi
          rw [List.take_length] at i2
          have hnum := hok i2
          simp
          refine k2 _ _ (by simp) ?_
          by_cases hs12 : ¬ s.length ≤ 1200
          · simp [show (1200 : Int) < (s.length : Int) by omega]
            exact hK _ _ rfl (by simp [rparseN, hnum, hs12, pD, limbs_zeroD])
          have hs12 : s.length ≤ 1200 := by omega
          have yes : K (.tup [pD (decval s), .int .i64 0]) := hK _ _ rfl (by simp [rparseN, hnum, hs12, pD])
          simp [show ¬ (1200 : Int) < (s.length : Int) by omega]
          refine vc_loop .wide (rpI s) (fun y => y.1 = (s.length : Int) - 4 * (y.2.length : Int) ∧ OkLD y.2 ∧ valD y.2 = decval (s.drop y.1.toNat) ∧ y.2.length ≤ s.length) (fun y => s.length - y.2.length) ((s.length : Int), [])
            ⟨by simp, by simp [OkLD], by simp [valD, decval], by simp⟩ (sub_iff (by simp [rpI, rpObj])) ?_
          rintro ⟨e, a⟩ ⟨a1, a2, a3, a4⟩ Q1 m1 m2
          simp only at a1 a2 a3 a4
          by_cases he : 0 < e
          · obtain ⟨n, hn⟩ : ∃ n : Nat, e = (n : Int) := ⟨e.toNat, by omega⟩
            subst hn
            have hnl : n ≤ s.length := by omega
            rw [Int.toNat_natCast] at a3
            obtain ⟨lo, hlo⟩ : ∃ lo : Nat, lo = n - 4 := ⟨_, rfl⟩
            have hw4 : IntKind.i64.wrap ((n : Int) - 4) = (n : Int) - 4 := wrap_i64 (by omega)
            have hmax : max ((n : Int) - 4) 0 = (lo : Int) := by omega
            have hdp : decval (s.drop lo) = decval ((s.drop lo).take (n - lo)) * 10000 ^ a.length + valD a := by
              rw [a3]
              conv => lhs; rw [← List.take_append_drop (n - lo) (s.drop lo), decval_append, List.drop_drop, show lo + (n - lo) = n by omega]
              rw [show (s.drop n).length = 4 * a.length by simp; omega, show (10000 : Nat) = 10 ^ 4 from rfl, ← Nat.pow_mul]
            have hdigs : ((s.drop lo).take (n - lo)).all isDig = true := by
              rw [List.all_eq_true] at i2 ⊢
              exact fun c hc => i2 c (List.mem_of_mem_drop (List.mem_of_mem_take hc))
            have hvb : decval ((s.drop lo).take (n - lo)) < 10000 := by
              have h8 := decval_lt _ hdigs
              have h9 : ((s.drop lo).take (n - lo)).length ≤ 4 := by simp; omega
              have h10 := Nat.pow_le_pow_right (show 0 < 10 by decide) h9
              omega
            have hfin : ∀ v, v = decval ((s.drop lo).take (n - lo)) → OkLD (a ++ [v]) ∧ valD (a ++ [v]) = decval (s.drop lo) := by
              intro v hv
              constructor
              · intro d hd
                rcases List.mem_append.1 hd with hd | hd
                · exact a2 d hd
                · simp at hd; omega
              · rw [val_appendD, hdp, ← hv]; simp [valD]; rw [Nat.mul_comm]; omega
            simp [rpI, show 0 < n by omega, hw4, hmax]
            refine vc_loop .wide (rpJ s (n : Int) a) (fun z => lo ≤ z.1 ∧ z.1 ≤ n ∧ z.2 = decval ((s.drop lo).take (z.1 - lo))) (fun z => n - z.1) (lo, 0) ⟨by simp, by simp only; omega, by simp [decval]⟩ (sub_iff (by cases a <;> simp [rpJ, rpObj])) ?_
            rintro ⟨k, v⟩ ⟨b1, b2, b3⟩ Q2 l1 l2
            simp only at b1 b2 b3
            by_cases hk : k = n
            · subst hk
              obtain ⟨f1, f2⟩ := hfin v b3
              have hmeas : s.length - (a ++ [v]).length < s.length - a.length := by simp; omega
              cases a with
              | nil =>
                simp [rpJ, rpObj]
                refine l2 _ _ (by simp) ?_
                simp [maxLen_eq, hw4]
                refine m1 _ ((k : Int) - 4, [v]) ⟨by simp at a1 ⊢; omega, f1, by simp only; rw [show ((k : Int) - 4).toNat = lo by omega]; exact f2, by simp; omega⟩ hmeas (sub_iff (by simp [rpI, rpObj, encD]))
              | cons d q =>
                have c1 : (q.length + 1 + 1) * 8 ≤ 140737488355328 := by simp at a4; omega
                have c2 : q.length + 1 + 1 ≤ 9223372036854775807 := by simp at a4; omega
                simp [rpJ, rpObj]
                refine l2 _ _ (by simp) ?_
                simp [maxLen_eq, hw4, c1, c2]
                refine m1 _ ((k : Int) - 4, d :: q ++ [v]) ⟨by simp at a1 ⊢; omega, f1, by simp only; rw [show ((k : Int) - 4).toNat = lo by omega]; exact f2, by simp at a1 ⊢; omega⟩ hmeas (sub_iff (by simp [rpI, rpObj, encD]; exact List.take_of_length_le (by simp)))
            · have hkn : k < n := by omega
              have hks : k < s.length := by omega
              have hkd : isDig s[k] = true := by rw [List.all_eq_true] at i2; exact i2 _ (List.getElem_mem hks)
              simp only [isDig, Bool.and_eq_true, decide_eq_true_eq] at hkd
              have hdg : IntKind.u8.wrap ((s[k].toNat : Int) - 48) = U (s[k].toNat - 48) := by rw [wrap_u8']; unfold U; omega
              have hdg' : IntKind.i64.wrap (U (s[k].toNat - 48)) = U (s[k].toNat - 48) := wrap_i64 (by unfold U; omega)
              have htk : (s.drop lo).take (k + 1 - lo) = (s.drop lo).take (k - lo) ++ [s[k]] := by
                rw [show k + 1 - lo = (k - lo) + 1 by omega, List.take_add_one, List.getElem?_drop, show lo + (k - lo) = k by omega, List.getElem?_eq_getElem hks]; rfl
              have hvs : v < 10000 := by
                have h8 : ((s.drop lo).take (k - lo)).all isDig = true := by
                  rw [List.all_eq_true] at i2 ⊢
                  exact fun c hc => i2 c (List.mem_of_mem_drop (List.mem_of_mem_take hc))
                have h9 := decval_lt _ h8
                have h10 : ((s.drop lo).take (k - lo)).length ≤ 4 := by simp; omega
                have h11 := Nat.pow_le_pow_right (show 0 < 10 by decide) h10
                omega
              have e1 : evBin .mul (.int .i64 (U v)) (.int .i64 10) = some (.int .i64 (U (v * 10))) := evi_mul v 10 (by omega)
              have e2 := evi_add (v * 10) (s[k].toNat - 48) (by omega)
              have hwk : IntKind.i64.wrap ((k : Int) + 1) = (k : Int) + 1 := wrap_i64 (by omega)
              simp [rpJ, hkn, hks, hdg, hdg', e1, e2, hwk]
              refine l1 _ (k + 1, v * 10 + (s[k].toNat - 48)) ⟨by omega, by omega, ?_⟩ (by simp only; omega) (sub_iff (by cases a <;> simp [rpJ, rpObj]))
              simp only
              rw [htk, decval_app, ← b3]
          · have hz : e.toNat = 0 := by omega
            rw [hz, List.drop_zero] at a3
            simp [rpI, he]
            refine m2 _ _ (by simp) ?_
            cases a with
            | nil =>
              simp at a1
              omega
            | cons d q =>
              simp [rpObj]
              refine oks_callz [65] .wide [.sl none 1 (encD (d :: q)) []] (r_trim none (d :: q) a2 (by omega)) (by simp) (by simp; rfl) (by simp; exact List.take_of_length_le (by simp)) ?_
              rintro _ rfl
              refine oks_vc .wide ?_
              rw [a3]
              simp
              exact yes
        · have hlt : i < s.length := by omega
          have hwi : IntKind.i64.wrap ((i : Int) + 1) = (i : Int) + 1 := wrap_i64 (by omega)
          cases hd : isDig s[i] with
          | true =>
            have hd' := hd
            simp only [isDig, Bool.and_eq_true, decide_eq_true_eq] at hd'
            simp [hlt, hwi, show ¬ ((s[i].toNat : Int) < 48) by omega, show ¬ ((57 : Int) < s[i].toNat) by omega, show (48 : Int) ≤ s[i].toNat by omega, show ((s[i].toNat : Int) ≤ 57) by omega]
            refine k1 _ (i + 1) ⟨by omega, ?_⟩ (by omega) (sub_iff (by simp))
            rw [all_take_succ s i hlt, i2, hd]; rfl
          | false =>
            have hno := no (hnd i hlt hd)
            have hd' := hd
            simp only [isDig, Bool.and_eq_false_iff, decide_eq_false_iff_not, Nat.not_le] at hd'
            by_cases h48 : s[i].toNat < 48
            · simp [hlt, hwi, show ((s[i].toNat : Int) < 48) by omega]
              refine k2 _ _ (by simp) ?_
              simp
              exact hno
            · simp [hlt, hwi, show ¬ ((s[i].toNat : Int) < 48) by omega, show (48 : Int) ≤ s[i].toNat by omega, show ((57 : Int) < s[i].toNat) by omega]
              refine k2 _ _ (by simp) ?_
              simp
              exact hno
      · simp [c_rrparse, h1, show ¬ (b.toNat : Int) = 48 by omega]
        simp only [← hse]
        refine vc_loop .wide (fun i : Nat => ⟨68, [(5, .p (.int .i64 (i : Int))), (4, .p (.sl (some true) 0 [] [])), (0, .p (.str s))], []⟩) (fun i => i ≤ s.length ∧ (s.take i).all isDig = true) (fun i => s.length - i) 0 ⟨by simp, by simp⟩ (sub_iff (by simp)) ?_
        rintro i ⟨i1, i2⟩ Q k1 k2
        by_cases hi : i = s.length
        · subst hi
          rw [List.take_length] at i2
          have hnum := hok i2
          simp
          refine k2 _ _ (by simp) ?_
          by_cases hs12 : ¬ s.length ≤ 1200
          · simp [show (1200 : Int) < (s.length : Int) by omega]
            exact hK _ _ rfl (by simp [rparseN, hnum, hs12, pD, limbs_zeroD])
          have hs12 : s.length ≤ 1200 := by omega
          have yes : K (.tup [pD (decval s), .int .i64 0]) := hK _ _ rfl (by simp [rparseN, hnum, hs12, pD])
          simp [show ¬ (1200 : Int) < (s.length : Int) by omega]
          refine vc_loop .wide (rpI s) (fun y => y.1 = (s.length : Int) - 4 * (y.2.length : Int) ∧ OkLD y.2 ∧ valD y.2 = decval (s.drop y.1.toNat) ∧ y.2.length ≤ s.length) (fun y => s.length - y.2.length) ((s.length : Int), [])
            ⟨by simp, by simp [OkLD], by simp [valD, decval], by simp⟩ (sub_iff (by simp [rpI, rpObj])) ?_
          rintro ⟨e, a⟩ ⟨a1, a2, a3, a4⟩ Q1 m1 m2
          simp only at a1 a2 a3 a4
          by_cases he : 0 < e
          · obtain ⟨n, hn⟩ : ∃ n : Nat, e = (n : Int) := ⟨e.toNat, by omega⟩
            subst hn
            have hnl : n ≤ s.length := by omega
            rw [Int.toNat_natCast] at a3
            obtain ⟨lo, hlo⟩ : ∃ lo : Nat, lo = n - 4 := ⟨_, rfl⟩
            have hw4 : IntKind.i64.wrap ((n : Int) - 4) = (n : Int) - 4 := wrap_i64 (by omega)
            have hmax : max ((n : Int) - 4) 0 = (lo : Int) := by omega
            have hdp : decval (s.drop lo) = decval ((s.drop lo).take (n - lo)) * 10000 ^ a.length + valD a := by
              rw [a3]
              conv => lhs; rw [← List.take_append_drop (n - lo) (s.drop lo), decval_append, List.drop_drop, show lo + (n - lo) = n by omega]
              rw [show (s.drop n).length = 4 * a.length by simp; omega, show (10000 : Nat) = 10 ^ 4 from rfl, ← Nat.pow_mul]
            have hdigs : ((s.drop lo).take (n - lo)).all isDig = true := by
              rw [List.all_eq_true] at i2 ⊢
              exact fun c hc => i2 c (List.mem_of_mem_drop (List.mem_of_mem_take hc))
            have hvb : decval ((s.drop lo).take (n - lo)) < 10000 := by
              have h8 := decval_lt _ hdigs
              have h9 : ((s.drop lo).take (n - lo)).length ≤ 4 := by simp; omega
              have h10 := Nat.pow_le_pow_right (show 0 < 10 by decide) h9
              omega
            have hfin : ∀ v, v = decval ((s.drop lo).take (n - lo)) → OkLD (a ++ [v]) ∧ valD (a ++ [v]) = decval (s.drop lo) := by
              intro v hv
              constructor
              · intro d hd
                rcases List.mem_append.1 hd with hd | hd
                · exact a2 d hd
                · simp at hd; omega
              · rw [val_appendD, hdp, ← hv]; simp [valD]; rw [Nat.mul_comm]; omega
            simp [rpI, show 0 < n by omega, hw4, hmax]
            refine vc_loop .wide (rpJ s (n : Int) a) (fun z => lo ≤ z.1 ∧ z.1 ≤ n ∧ z.2 = decval ((s.drop lo).take (z.1 - lo))) (fun z => n - z.1) (lo, 0) ⟨by simp, by simp only; omega, by simp [decval]⟩ (sub_iff (by cases a <;> simp [rpJ, rpObj])) ?_
            rintro ⟨k, v⟩ ⟨b1, b2, b3⟩ Q2 l1 l2
            simp only at b1 b2 b3
            by_cases hk : k = n
            · subst hk
              obtain ⟨f1, f2⟩ := hfin v b3
              have hmeas : s.length - (a ++ [v]).length < s.length - a.length := by simp; omega
              cases a with
              | nil =>
                simp [rpJ, rpObj]
                refine l2 _ _ (by simp) ?_
                simp [maxLen_eq, hw4]
                refine m1 _ ((k : Int) - 4, [v]) ⟨by simp at a1 ⊢; omega, f1, by simp only; rw [show ((k : Int) - 4).toNat = lo by omega]; exact f2, by simp; omega⟩ hmeas (sub_iff (by simp [rpI, rpObj, encD]))
              | cons d q =>
                have c1 : (q.length + 1 + 1) * 8 ≤ 140737488355328 := by simp at a4; omega
                have c2 : q.length + 1 + 1 ≤ 9223372036854775807 := by simp at a4; omega
                simp [rpJ, rpObj]
                refine l2 _ _ (by simp) ?_
                simp [maxLen_eq, hw4, c1, c2]
                refine m1 _ ((k : Int) - 4, d :: q ++ [v]) ⟨by simp at a1 ⊢; omega, f1, by simp only; rw [show ((k : Int) - 4).toNat = lo by omega]; exact f2, by simp at a1 ⊢; omega⟩ hmeas (sub_iff (by simp [rpI, rpObj, encD]; exact List.take_of_length_le (by simp)))
            · have hkn : k < n := by omega
              have hks : k < s.length := by omega
              have hkd : isDig s[k] = true := by rw [List.all_eq_true] at i2; exact i2 _ (List.getElem_mem hks)
              simp only [isDig, Bool.and_eq_true, decide_eq_true_eq] at hkd
              have hdg : IntKind.u8.wrap ((s[k].toNat : Int) - 48) = U (s[k].toNat - 48) := by rw [wrap_u8']; unfold U; omega
              have hdg' : IntKind.i64.wrap (U (s[k].toNat - 48)) = U (s[k].toNat - 48) := wrap_i64 (by unfold U; omega)
              have htk : (s.drop lo).take (k + 1 - lo) = (s.drop lo).take (k - lo) ++ [s[k]] := by
                rw [show k + 1 - lo = (k - lo) + 1 by omega, List.take_add_one, List.getElem?_drop, show lo + (k - lo) = k by omega, List.getElem?_eq_getElem hks]; rfl
              have hvs : v < 10000 := by
                have h8 : ((s.drop lo).take (k - lo)).all isDig = true := by
                  rw [List.all_eq_true] at i2 ⊢
                  exact fun c hc => i2 c (List.mem_of_mem_drop (List.mem_of_mem_take hc))
                have h9 := decval_lt _ h8
                have h10 : ((s.drop lo).take (k - lo)).length ≤ 4 := by simp; omega
                have h11 := Nat.pow_le_pow_right (show 0 < 10 by decide) h10
                omega
              have e1 : evBin .mul (.int .i64 (U v)) (.int .i64 10) = some (.int .i64 (U (v * 10))) := evi_mul v 10 (by omega)
              have e2 := evi_add (v * 10) (s[k].toNat - 48) (by omega)
              have hwk : IntKind.i64.wrap ((k : Int) + 1) = (k : Int) + 1 := wrap_i64 (by omega)
              simp [rpJ, hkn, hks, hdg, hdg', e1, e2, hwk]
              refine l1 _ (k + 1, v * 10 + (s[k].toNat - 48)) ⟨by omega, by omega, ?_⟩ (by simp only; omega) (sub_iff (by cases a <;> simp [rpJ, rpObj]))
              simp only
              rw [htk, decval_app, ← b3]
          · have hz : e.toNat = 0 := by omega
            rw [hz, List.drop_zero] at a3
            simp [rpI, he]
            refine m2 _ _ (by simp) ?_
            cases a with
            | nil =>
              simp at a1
              omega
            | cons d q =>
              simp [rpObj]
              refine oks_callz [65] .wide [.sl none 1 (encD (d :: q)) []] (r_trim none (d :: q) a2 (by omega)) (by simp) (by simp; rfl) (by simp; exact List.take_of_length_le (by simp)) ?_
              rintro _ rfl
              refine oks_vc .wide ?_
              rw [a3]
              simp
              exact yes
        · have hlt : i < s.length := by omega
          have hwi : IntKind.i64.wrap ((i : Int) + 1) = (i : Int) + 1 := wrap_i64 (by omega)
          cases hd : isDig s[i] with
          | true =>
            have hd' := hd
            simp only [isDig, Bool.and_eq_true, decide_eq_true_eq] at hd'
            simp [hlt, hwi, show ¬ ((s[i].toNat : Int) < 48) by omega, show ¬ ((57 : Int) < s[i].toNat) by omega, show (48 : Int) ≤ s[i].toNat by omega, show ((s[i].toNat : Int) ≤ 57) by omega]
            refine k1 _ (i + 1) ⟨by omega, ?_⟩ (by omega) (sub_iff (by simp))
            rw [all_take_succ s i hlt, i2, hd]; rfl
          | false =>
            have hno := no (hnd i hlt hd)
            have hd' := hd
            simp only [isDig, Bool.and_eq_false_iff, decide_eq_false_iff_not, Nat.not_le] at hd'
            by_cases h48 : s[i].toNat < 48
            · simp [hlt, hwi, show ((s[i].toNat : Int) < 48) by omega]
              refine k2 _ _ (by simp) ?_
              simp
              exact hno
            · simp [hlt, hwi, show ¬ ((s[i].toNat : Int) < 48) by omega, show (48 : Int) ≤ s[i].toNat by omega, show ((57 : Int) < s[i].toNat) by omega]
              refine k2 _ _ (by simp) ?_
              simp
              exact hno
end Go.Dl
set_option linter.unusedVariables false
set_option linter.unusedSimpArgs false
set_option maxRecDepth 1000000
namespace Go.Dl
open Go.Proofs

theorem ten4 : (10000 : Nat) = 10 ^ 4 := rfl
theorem decT_lenD (v : Nat) : (decT v).length ≤ 4 * (limbsD v).length + 1 := by
  have key : ∀ v, v ≠ 0 → 10 ^ ((decT v).length - 1) ≤ v := by
    intro v
    induction v using Nat.strongRecOn with
    | ind v ih =>
      intro h0
      by_cases h : v < 10
      · rw [decT_lt h]; simp; omega
      · rw [decT_ge h, List.length_append]
        obtain ⟨b, r, e, _⟩ := decT_head (v / 10) (by omega)
        have := ih (v / 10) (by omega) (by omega)
        rw [e] at this ⊢
        simp only [List.length_cons, List.length_nil, Nat.zero_add, Nat.add_sub_cancel] at this ⊢
        rw [Nat.pow_succ]
        omega
  by_cases h : v = 0
  · subst h; rw [decT_lt (by decide)]; simp
  · have h1 := key v h
    have h2 := limbs_ltD v
    rw [ten4, ← Nat.pow_mul] at h2
    have := (Nat.pow_lt_pow_iff_right (by decide : 1 < 10)).1 (Nat.lt_of_le_of_lt h1 h2)
    omega

def rt (neg : Bool) (n d : Nat) : List UInt8 := (if neg then [45] else []) ++ decT n ++ (if d = 1 then [] else 47 :: decT d)
def encRR (neg : Bool) (n d : Nat) : PV := .agg [.bool neg, pD n, pD d]
theorem r_rattext (neg : Bool) (n d : Nat) (hn : (limbsD n).length ≤ 100000) (hd : (limbsD d).length ≤ 100000) : PCall Tryd.prog 21 [encRR neg n d] (· = .str (rt neg n d)) := by
  refine pcall_vcz c_rrattext (by simp [c_rrattext]) fun x K hK => ?_
  have l1 := decT_lenD n
  have l2 := decT_lenD d
  have g1 : (decT n).length + 1 ≤ 9223372036854775807 := by omega
  have g2 : (decT n).length + 1 + 1 ≤ 9223372036854775807 := by omega
  have g3 : (decT n).length + 1 + (decT d).length ≤ 9223372036854775807 := by omega
  have g4 : (decT n).length + 1 + 1 + (decT d).length ≤ 9223372036854775807 := by omega
  have g5 : 1 + (decT n).length ≤ 9223372036854775807 := by omega
  have g6 : 1 + (decT n).length + 1 ≤ 9223372036854775807 := by omega
  have tn := r_text (limbsD n) (limbs_okD n) hn
  have td := r_text (limbsD d) (limbs_okD d) hd
  have tc := r_cmp (limbsD d) [1] (limbs_okD d) (okD1 (by decide)) (by omega) (by simp)
  rw [val_limbsD] at tn td tc
  rw [show valD [1] = 1 from rfl] at tc
  have hiff : cmpI d 1 = 0 ↔ d = 1 := by
    unfold cmpI
    by_cases h1 : d < 1
    · simp [h1]; omega
    · by_cases h2 : d = 1
      · simp [h2]
      · simp [h1, h2]
  have q1 : (decT n).length ≤ 9223372036854775806 := by omega
  have q2 : (decT n).length + 1 ≤ 9223372036854775806 := by omega
  have q3 : (decT n).length ≤ 9223372036854775805 := by omega
  simp [c_rrattext, encRR, pD]
  refine oks_callz [] .wide [.sl none 1 (encD (limbsD n)) []] tn (by simp) (by simp; rfl) (by simp) ?_
  rintro _ rfl
  refine oks_vc .wide ?_
  cases neg <;>
  · simp [g5, g1]
    refine oks_callz [13] .wide [.sl none 1 (encD (limbsD d)) [], .sl none 1 (encD [1]) []] tc (by simp) (by simp; rfl) (by simp [encD, U]) ?_
    rintro _ rfl
    refine oks_vc .wide ?_
    by_cases h : d = 1
    · have hc := hiff.2 h
      simp [hc]
      exact hK _ _ rfl (by simp [rt, h])
    · have hc : ¬ cmpI d 1 = 0 := fun e => h (hiff.1 e)
      simp [hc, q1, q2, q3]
      refine oks_callz [] .wide [.sl none 1 (encD (limbsD d)) []] td (by simp) (by simp; rfl) (by simp) ?_
      rintro _ rfl
      refine oks_vc .wide ?_
      simp [g1, g2, g3, g4, g5, g6, q1, q2, q3]
      exact hK _ _ rfl (by simp [rt, h])

theorem cutC_no (c : UInt8) : ∀ t : List UInt8, (∀ x, x ∈ t → x ≠ c) → cutC c t = (t, [], false)
  | [], _ => rfl
  | x :: r, h => by
    have h1 : ¬ x = c := h x (by simp)
    have ih := cutC_no c r (fun y hy => h y (by simp [hy]))
    simp [cutC, h1, ih]
theorem cutC_at (c : UInt8) (q : List UInt8) : ∀ p : List UInt8, (∀ x, x ∈ p → x ≠ c) → cutC c (p ++ c :: q) = (p, q, true)
  | [], _ => by simp [cutC]
  | x :: r, h => by
    have h1 : ¬ x = c := h x (by simp)
    have ih := cutC_at c q r (fun y hy => h y (by simp [hy]))
    simp [cutC, h1, ih]
def errRR : PV := encRR false 0 1
def rratparseP (s : List UInt8) : PV := if rOk s then .tup [rmakeP (rpNeg s) (decval (rpA s)) (decval (rpB s)), .int .i64 0] else .tup [errRR, .int .i64 (rErr s)]
theorem rt_eq (neg : Bool) (n d : Nat) (hd : d ≠ 0) : rt (neg && decide (n / Nat.gcd n d ≠ 0)) (n / Nat.gcd n d) (d / Nat.gcd n d) = ratT' (lowN neg n d) := by
  have hg0 : 0 < Nat.gcd n d := Nat.pos_of_ne_zero fun e => hd (Nat.eq_zero_of_gcd_eq_zero_right e)
  have hdg : d / Nat.gcd n d ≠ 0 := fun e => by
    have := Nat.div_mul_cancel (Nat.gcd_dvd_right n d)
    rw [e, Nat.zero_mul] at this
    exact hd this.symm
  by_cases hn : n = 0
  · subst hn
    rw [Nat.gcd_zero_left, Nat.zero_div, Nat.div_self (Nat.pos_of_ne_zero hd)]
    simp [rt, ratT', lowN, ratT, den1]
  · have hng : n / Nat.gcd n d ≠ 0 := fun e => by
      have := Nat.div_mul_cancel (Nat.gcd_dvd_left n d)
      rw [e, Nat.zero_mul] at this
      exact hn this.symm
    simp only [lowN, if_neg hn, ratT', ratT, den1, if_neg hdg, rt, hng, ne_eq, not_false_eq_true, decide_true, Bool.and_true]
end Go.Dl
