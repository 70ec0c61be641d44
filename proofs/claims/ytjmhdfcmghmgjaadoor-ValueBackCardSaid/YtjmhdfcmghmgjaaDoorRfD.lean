/- Contracts of hornbeamref1: Sub, DivMod, Gcd. -/
import Derived.Test.YtjmhdfcmghmgjaaDoorRfC
set_option linter.unusedVariables false
set_option linter.unusedSimpArgs false
set_option maxRecDepth 1000000
namespace Go.Dl
open Go.Proofs

theorem sub_digD (x t y : Nat) (hx : x < 10000) (ht : t ≤ 1) (hy : y < 10000) : ∃ (D1 D2 : Int) (n t' : Nat), evBin .sub (.int .i64 (U x)) (.int .i64 (U t)) = some (.int .i64 D1) ∧ evBin .sub (.int .i64 D1) (.int .i64 (U y)) = some (.int .i64 D2) ∧ (y = 0 → D1 = D2) ∧
    ((D2 < 0 ∧ evBin .add (.int .i64 D2) (.int .i64 10000) = some (.int .i64 (U n)) ∧ t' = 1) ∨ (¬ D2 < 0 ∧ D2 = U n ∧ t' = 0)) ∧ n + t + y = x + 10000 * t' ∧ n < 10000 := by
  refine ⟨(x : Int) - t, (x : Int) - t - y, if x < t + y then x + 10000 - t - y else x - t - y, if x < t + y then 1 else 0, ?_, ?_, fun h => by omega, ?_, ?_, ?_⟩
  · simp only [evBin, if_true]; unfold U; rw [wrap_i64 (by omega)]
  · simp only [evBin, if_true]; unfold U; rw [wrap_i64 (by omega)]
  · by_cases h : x < t + y
    · left
      refine ⟨by omega, ?_, by rw [if_pos h]⟩
      simp only [evBin, if_true]; unfold U; rw [wrap_i64 (by omega), if_pos h]; congr 2; omega
    · right
      refine ⟨by omega, ?_, by rw [if_neg h]⟩
      rw [if_neg h]; unfold U; omega
  · split <;> omega
  · split <;> omega

def rsObj : List Nat → DV × List (Nat × Ob)
  | [] => (.p (.sl (some true) 0 [] []), [])
  | d :: r => (.own 38 1 0 (d :: r).length (d :: r).length, [(38, ⟨false, 1, .p (encD (d :: r))⟩)])
def rsI (A B : List Nat) (y : Nat × Nat × List Nat) : St := ⟨41, [(7, .p (.int .i64 (y.1 : Int))), (6, .p (.int .i64 (U y.2.1))), (5, (rsObj y.2.2).1), (0, .p (.sl none 1 (encD A) [])), (1, .p (.sl none 1 (encD B) []))], (rsObj y.2.2).2⟩

theorem sub_stepD {o bt at' t t' n x y P : Nat} (h : o + bt = at' + t * P) (hd : n + t + y = x + 10000 * t') : o + P * n + (bt + P * y) = at' + P * x + t' * (P * 10000) := by
  have h1 : P * (n + t + y) = P * (x + 10000 * t') := by rw [hd]
  simp only [Nat.mul_add] at h1
  rw [Nat.mul_comm t P] at h
  have e1 : t' * (P * 10000) = P * (10000 * t') := by rw [Nat.mul_comm t', Nat.mul_assoc]
  rw [e1]
  omega

theorem r_sub (a b : List Nat) (ha : OkLD a) (hb : OkLD b) (la : a.length ≤ 900000) (lb : b.length ≤ 900000) (hle : valD b ≤ valD a) : PCall Tryd.prog 113 [.sl none 1 (encD a) [], .sl none 1 (encD b) []] (· = pD (valD a - valD b)) := by
  have U1 : U 1 = 1 := rfl
  refine pcall_vcz c_rsub (by simp [c_rsub]) fun x K hK => ?_
  simp [c_rsub]
  refine vc_loop .wide (rsI a b) (fun y => y.1 ≤ a.length ∧ y.2.1 ≤ 1 ∧ OkLD y.2.2 ∧ y.2.2.length = y.1 ∧ valD y.2.2 + valD (b.take y.1) = valD (a.take y.1) + y.2.1 * 10000 ^ y.1) (fun y => a.length - y.1)
    ⟨0, 0, []⟩ ⟨by simp, by simp, by simp [OkLD], rfl, by simp [valD]⟩ (sub_iff (by simp [rsI, rsObj])) ?_
  rintro ⟨i, t, out⟩ ⟨h1, h2, h3, h4, h5⟩ Q k1 k2
  simp only at h1 h2 h3 h4 h5
  by_cases hi : i = a.length
  · subst hi
    have hv : valD out = valD a - valD b := by
      rw [List.take_length] at h5
      have hbt : valD (b.take a.length) = valD b := by
        by_cases hl : b.length ≤ a.length
        · rw [List.take_of_length_le hl]
        · have e1 := val_splitD b a.length (by omega)
          have e2 := val_ltD ha
          rcases Nat.eq_zero_or_pos (valD (b.drop a.length)) with hz | hz
          · rw [hz] at e1; omega
          · have := Nat.le_mul_of_pos_right (10000 ^ a.length) hz
            omega
      have h6 := val_ltD h3
      rw [h4] at h6
      rw [hbt] at h5
      have ht : t = 0 := by
        rcases Nat.eq_zero_or_pos t with h | h
        · exact h
        · have : t = 1 := by omega
          subst this
          omega
      subst ht
      omega
    cases out with
    | nil =>
      simp [rsI, rsObj]
      refine k2 _ _ (by simp) ?_
      simp
      refine oks_callz [] .wide [.sl none 1 (encD []) []] (r_trim none [] (by simp [OkLD]) (by simp)) (by simp) (by simp; rfl) (by simp) ?_
      rintro _ rfl
      refine oks_vc .wide ?_
      rw [hv]
      simp
      exact hK _ _ rfl (by simp [pD])
    | cons d r =>
      simp [rsI, rsObj]
      refine k2 _ _ (by simp) ?_
      simp
      refine oks_callz [38] .wide [.sl none 1 (encD (d :: r)) []] (r_trim none (d :: r) h3 (by omega)) (by simp) (by simp; rfl) (by simp; exact List.take_of_length_le (by simp)) ?_
      rintro _ rfl
      refine oks_vc .wide ?_
      rw [hv]
      simp
      exact hK _ _ rfl (by simp [pD])
  · have hlt : i < a.length := by omega
    have hx : a[i] < 10000 := ha _ (List.getElem_mem hlt)
    have hwi : IntKind.i64.wrap ((i : Int) + 1) = (i : Int) + 1 := wrap_i64 (by omega)
    have okap : ∀ n, n < 10000 → OkLD (out ++ [n]) := fun n hn d hd => by
      rcases List.mem_append.1 hd with hd | hd
      · exact h3 d hd
      · simp at hd; omega
    have vap : ∀ n, valD (out ++ [n]) = valD out + 10000 ^ i * n := fun n => by rw [val_appendD, h4]; simp [valD]
    by_cases hib : i < b.length
    · have hy : b[i] < 10000 := hb _ (List.getElem_mem hib)
      obtain ⟨D1, D2, n, t', e1, e2, _, e3, e4, e5⟩ := sub_digD a[i] t b[i] hx h2 hy
      have hst := sub_stepD h5 e4
      rw [← val_take_succD a i hlt, ← val_take_succD b i hib, ← Nat.pow_succ, ← vap] at hst
      rcases e3 with ⟨f1, f2, f3⟩ | ⟨f1, f2, f3⟩
      · cases out with
        | nil =>
          simp [rsI, rsObj, hlt, hib, e1, e2, f1, f2, hwi, maxLen_eq]
          refine k1 _ (i + 1, 1, [n]) ⟨by omega, by simp, okap n e5, by simp at h4 ⊢; omega, by rw [f3] at hst; exact hst⟩ (by simp only; omega) (sub_iff (by simp [rsI, rsObj, encD, U1]))
        | cons d r =>
          have b1 : (r.length + 1 + 1) * 8 ≤ 140737488355328 := by simp at h4; omega
          have b2 : r.length + 1 + 1 ≤ 9223372036854775807 := by simp at h4; omega
          simp [rsI, rsObj, hlt, hib, e1, e2, f1, f2, hwi, maxLen_eq, b1, b2]
          refine k1 _ (i + 1, 1, d :: r ++ [n]) ⟨by omega, by simp, okap n e5, by simp at h4 ⊢; omega, by rw [f3] at hst; exact hst⟩ (by simp only; omega) (sub_iff (by simp [rsI, rsObj, encD, U1]; exact List.take_of_length_le (by simp)))
      · cases out with
        | nil =>
          simp [rsI, rsObj, hlt, hib, e1, e2, f1, hwi, maxLen_eq]
          refine k1 _ (i + 1, 0, [n]) ⟨by omega, by simp, okap n e5, by simp at h4 ⊢; omega, by rw [f3] at hst; exact hst⟩ (by simp only; omega) (sub_iff (by simp [rsI, rsObj, encD, f2]))
        | cons d r =>
          have b1 : (r.length + 1 + 1) * 8 ≤ 140737488355328 := by simp at h4; omega
          have b2 : r.length + 1 + 1 ≤ 9223372036854775807 := by simp at h4; omega
          simp [rsI, rsObj, hlt, hib, e1, e2, f1, hwi, maxLen_eq, b1, b2]
          refine k1 _ (i + 1, 0, d :: r ++ [n]) ⟨by omega, by simp, okap n e5, by simp at h4 ⊢; omega, by rw [f3] at hst; exact hst⟩ (by simp only; omega) (sub_iff (by simp [rsI, rsObj, encD, f2]; exact List.take_of_length_le (by simp)))
    · obtain ⟨D1, D2, n, t', e1, _, e0, e3, e4, e5⟩ := sub_digD a[i] t 0 hx h2 (by decide)
      have e0 := e0 rfl
      subst e0
      have hbt : valD (b.take (i + 1)) = valD (b.take i) := by rw [List.take_of_length_le (by omega), List.take_of_length_le (by omega)]
      have hst := sub_stepD h5 e4
      rw [Nat.mul_zero, Nat.add_zero, ← val_take_succD a i hlt, ← hbt, ← Nat.pow_succ, ← vap] at hst
      rcases e3 with ⟨f1, f2, f3⟩ | ⟨f1, f2, f3⟩
      · cases out with
        | nil =>
          simp [rsI, rsObj, hlt, hib, e1, f1, f2, hwi, maxLen_eq]
          refine k1 _ (i + 1, 1, [n]) ⟨by omega, by simp, okap n e5, by simp at h4 ⊢; omega, by rw [f3] at hst; exact hst⟩ (by simp only; omega) (sub_iff (by simp [rsI, rsObj, encD, U1]))
        | cons d r =>
          have b1 : (r.length + 1 + 1) * 8 ≤ 140737488355328 := by simp at h4; omega
          have b2 : r.length + 1 + 1 ≤ 9223372036854775807 := by simp at h4; omega
          simp [rsI, rsObj, hlt, hib, e1, f1, f2, hwi, maxLen_eq, b1, b2]
          refine k1 _ (i + 1, 1, d :: r ++ [n]) ⟨by omega, by simp, okap n e5, by simp at h4 ⊢; omega, by rw [f3] at hst; exact hst⟩ (by simp only; omega) (sub_iff (by simp [rsI, rsObj, encD, U1]; exact List.take_of_length_le (by simp)))
      · cases out with
        | nil =>
          simp [rsI, rsObj, hlt, hib, e1, f1, hwi, maxLen_eq]
          refine k1 _ (i + 1, 0, [n]) ⟨by omega, by simp, okap n e5, by simp at h4 ⊢; omega, by rw [f3] at hst; exact hst⟩ (by simp only; omega) (sub_iff (by simp [rsI, rsObj, encD, f2]))
        | cons d r =>
          have b1 : (r.length + 1 + 1) * 8 ≤ 140737488355328 := by simp at h4; omega
          have b2 : r.length + 1 + 1 ≤ 9223372036854775807 := by simp at h4; omega
          simp [rsI, rsObj, hlt, hib, e1, f1, hwi, maxLen_eq, b1, b2]
          refine k1 _ (i + 1, 0, d :: r ++ [n]) ⟨by omega, by simp, okap n e5, by simp at h4 ⊢; omega, by rw [f3] at hst; exact hst⟩ (by simp only; omega) (sub_iff (by simp [rsI, rsObj, encD, f2]; exact List.take_of_length_le (by simp)))

theorem evi_half (a : Nat) (h : a < 9223372036854775808) : evBin .quo (.int .i64 (U a)) (.int .i64 2) = some (.int .i64 (U (a / 2))) := by
  simp only [evBin, if_true]; unfold U
  rw [if_neg (by decide), Int.tdiv_eq_ediv_of_nonneg (by omega), wrap_i64 (by omega)]; congr 2
theorem evi_inc (a : Nat) (h : a + 1 < 9223372036854775808) : evBin .add (.int .i64 (U a)) (.int .i64 1) = some (.int .i64 (U (a + 1))) := evi_add a 1 h
theorem evi_dec (a : Nat) (h : 1 ≤ a) (h' : a < 9223372036854775808) : evBin .sub (.int .i64 (U a)) (.int .i64 1) = some (.int .i64 (U (a - 1))) := evi_sub a 1 h h'
theorem cmp_leq (a b : Nat) : (cmpI a b ≤ 0) ↔ a ≤ b := by
  unfold cmpI
  by_cases h1 : a < b
  · simp [h1]; omega
  · by_cases h2 : a = b
    · simp [h2]
    · simp [h1, h2]; omega
theorem okD1 {m : Nat} (h : m < 10000) : OkLD [m] := by intro d hd; simp at hd; omega

def rdR (R : Nat) : DV := .p (if R = 0 then .sl (some true) 0 [] [] else pD R)
def rdI (A B : List Nat) (f : Bool) (y : Nat × List Nat × Nat) : St := ⟨62, [(8, .p (.int .i64 ((y.1 : Int) - 1))), (7, .p (if f then pD y.2.2 else .sl (some true) 0 [] [])), (6, .own 14 1 0 A.length A.length), (0, .p (.sl none 1 (encD A) [])), (1, .p (.sl none 1 (encD B) []))], [(14, ⟨false, 1, .p (encD y.2.1)⟩)]⟩
def rdJ (A B Q : List Nat) (j R : Nat) (z : Nat × Nat) : St := ⟨62, [(9, .p (.int .i64 (U z.1))), (10, .p (.int .i64 (U z.2))), (8, .p (.int .i64 (j : Int))), (7, .p (pD R)), (6, .own 14 1 0 A.length A.length), (0, .p (.sl none 1 (encD A) [])), (1, .p (.sl none 1 (encD B) []))], [(14, ⟨false, 1, .p (encD Q)⟩)]⟩

set_option maxHeartbeats 2000000 in
theorem r_divmod (a b : List Nat) (ha : OkLD a) (hb : OkLD b) (la : a.length ≤ 100000) (lb : b.length ≤ 100000) (hb0 : valD b ≠ 0) : PCall Tryd.prog 100 [.sl none 1 (encD a) [], .sl none 1 (encD b) []] (· = .tup [pD (valD a / valD b), pD (valD a % valD b)]) := by
  refine pcall_vcz c_rdivmod (by simp [c_rdivmod]) fun x K hK => ?_
  have hV0 : 0 < valD b := Nat.pos_of_ne_zero hb0
  have hVW := val_ltD hb
  have b1 : a.length * 8 ≤ 281474976710656 := by omega
  have b2 : a.length ≤ 9223372036854775807 := by omega
  have hrep : List.replicate a.length [PV.int .i64 0] = encD (List.replicate a.length 0) := by simp [encD]
  have hw1 : IntKind.i64.wrap ((a.length : Int) - 1) = (a.length : Int) - 1 := wrap_i64 (by omega)
  have U9999 : U 9999 = 9999 := rfl
  have U1 : U 1 = 1 := rfl
  simp [c_rdivmod, b1, b2, hrep, hw1]
  refine vc_loop .wide (fun y : Bool × Nat × List Nat × Nat => rdI a b y.1 y.2) (fun y => y.2.1 ≤ a.length ∧ OkLD y.2.2.1 ∧ y.2.2.1.length = a.length ∧ y.2.2.2 < valD b ∧ valD (a.drop y.2.1) = valD (y.2.2.1.drop y.2.1) * valD b + y.2.2.2 ∧ (y.1 = false → y.2.2.2 = 0)) (fun y => y.2.1)
    ⟨false, a.length, List.replicate a.length 0, 0⟩ ⟨Nat.le_refl _, by simp [OkLD], by simp, hV0, by simp [valD], by simp⟩ (sub_iff (by simp [rdI])) ?_
  rintro ⟨f, k, q, R⟩ ⟨h1, h2, h3, h4, h5, h6⟩ Q k1 k2
  simp only at h1 h2 h3 h4 h5 h6
  have lR : (limbsD R).length ≤ b.length := by
    have := limbs_monoD (Nat.le_of_lt h4)
    have := limbs_len_leD hb
    omega
  by_cases hk : k = 0
  · subst hk
    simp at h5
    have e1 : valD a / valD b = valD q := by
      rw [h5, Nat.add_comm, Nat.add_mul_div_right _ _ hV0, Nat.div_eq_of_lt h4, Nat.zero_add]
    have e2 : valD a % valD b = R := by
      rw [h5, Nat.add_comm, Nat.add_mul_mod_self_right, Nat.mod_eq_of_lt h4]
    cases f with
    | false =>
      have h6 := h6 rfl
      subst h6
      simp [rdI]
      refine k2 _ _ (by simp) ?_
      simp
      refine oks_callz [14] .wide [.sl none 1 (encD q) []] (r_trim none q h2 (by omega)) (by simp) (by simp [h3]; rfl) (by simp; exact List.take_of_length_le (by simp [h3])) ?_
      rintro _ rfl
      refine oks_vc .wide ?_
      rw [← e1]
      simp
      exact hK _ _ rfl (by simp [pD, e2, limbs_zeroD])
    | true =>
      simp [rdI, pD]
      refine k2 _ _ (by simp) ?_
      simp
      refine oks_callz [14] .wide [.sl none 1 (encD q) []] (r_trim none q h2 (by omega)) (by simp) (by simp [h3]; rfl) (by simp; exact List.take_of_length_le (by simp [h3])) ?_
      rintro _ rfl
      refine oks_vc .wide ?_
      rw [← e1]
      simp
      exact hK _ _ rfl (by simp [pD, e2])
  · obtain ⟨j, rfl⟩ : ∃ j, k = j + 1 := ⟨k - 1, by omega⟩
    have hj : j < a.length := by omega
    have hx : a[j] < 10000 := ha _ (List.getElem_mem hj)
    have okR : OkLD (a[j] :: limbsD R) := by
      intro d hd
      rcases List.mem_cons.1 hd with rfl | hd
      · exact hx
      · exact limbs_okD R d hd
    obtain ⟨R', hR'⟩ : ∃ R', R' = a[j] + 10000 * R := ⟨_, rfl⟩
    have vR' : valD (a[j] :: limbsD R) = R' := by rw [valD, val_limbsD, hR']
    have hR'lt : R' < 10000 * valD b := by omega
    have hlenR' : (limbsD R').length ≤ b.length + 1 := by
      have := limbs_len_leD okR
      rw [vR'] at this
      simp at this
      omega
    have hwj : IntKind.i64.wrap ((j : Int) - 1) = (j : Int) - 1 := wrap_i64 (by omega)
    have c1 : ((limbsD R).length + 1) * 8 ≤ 140737488355328 := by omega
    have c2 : (limbsD R).length + 1 ≤ 9223372036854775807 := by omega
    have c3 : 1 + (limbsD R).length ≤ 9223372036854775807 := by omega
    have c4 : (1 + (limbsD R).length) * 8 ≤ 140737488355328 := by omega
    have hfin : ∀ lo hi : Nat, lo = hi → valD b * lo ≤ R' → R' < valD b * (hi + 1) → lo = R' / valD b ∧ R' - valD b * lo = R' % valD b := by
      intro lo hi e g1 g2
      subst e
      have e1 : R' / valD b = lo := by
        refine Nat.div_eq_of_lt_le ?_ ?_
        · rw [Nat.mul_comm]; exact g1
        · rw [Nat.mul_comm]; exact g2
      refine ⟨e1.symm, ?_⟩
      have := Nat.div_add_mod R' (valD b)
      rw [e1] at this
      omega
    have hq5 : ∀ lo : Nat, lo = R' / valD b → valD (a.drop j) = valD ((q.set j lo).drop j) * valD b + R' % valD b := by
      intro lo hlo
      have hjq : j < q.length := by omega
      have hQ : (q.set j lo).drop j = lo :: q.drop (j + 1) := by
        rw [List.drop_eq_getElem_cons (by simpa using hjq)]
        simp [List.drop_set]
      have e2 := Nat.div_add_mod R' (valD b)
      rw [← hlo] at e2
      rw [List.drop_eq_getElem_cons hj, hQ, valD, valD, h5, Nat.add_mul, Nat.mul_add]
      have e3 : 10000 * (valD (q.drop (j + 1)) * valD b) = 10000 * valD (q.drop (j + 1)) * valD b := by rw [Nat.mul_assoc]
      rw [Nat.mul_comm (valD b) lo] at e2
      omega
    cases f with
    | false =>
      have h6 := h6 rfl
      subst h6
      simp [rdI, pD, hj]
      simp [hj, maxLen_eq]
      refine oks_callz [28] .wide [.sl none 1 (encD (a[j] :: limbsD 0)) []] (r_trim none _ okR (by simp; omega)) (by simp) (by simp; rfl) (by simp [encD, limbs_zeroD]) ?_
      rintro _ rfl
      refine oks_vc .wide ?_
      rw [vR']
      simp
      refine vc_loop .wide (rdJ a b q j R') (fun z => z.1 ≤ z.2 ∧ z.2 ≤ 9999 ∧ valD b * z.1 ≤ R' ∧ R' < valD b * (z.2 + 1)) (fun z => z.2 - z.1) (0, 9999) ⟨by simp, by simp, by simp, by simp only; omega⟩ (sub_iff (by simp [rdJ, pD, U9999])) ?_
      rintro ⟨lo, hi⟩ ⟨g1, g2, g3, g4⟩ Q' k1' k2'
      simp only at g1 g2 g3 g4
      by_cases hlh : lo < hi
      · obtain ⟨m, hm⟩ : ∃ m, m = (lo + hi + 1) / 2 := ⟨_, rfl⟩
        have e1 := evi_add lo hi (by omega)
        have e2 := evi_inc (lo + hi) (by omega)
        have e3 := evi_half (lo + hi + 1) (by omega)
        rw [← hm] at e3
        have e4 := evi_dec m (by omega) (by omega)
        have hmul := r_mul b [m] hb (okD1 (by omega)) (by omega) (by simp)
        have hv1 : valD [m] = m := by simp [valD]
        rw [hv1] at hmul
        have hcl : (limbsD (valD b * m)).length ≤ 1000000 := by
          have h8 : valD b * m < 10000 ^ (b.length + 1) := by
            rw [Nat.pow_succ]
            exact Nat.lt_of_le_of_lt (Nat.mul_le_mul_left _ (show m ≤ 10000 by omega)) (Nat.mul_lt_mul_of_pos_right hVW (by decide))
          have h9 := limbs_geD (valD b * m)
          rcases Nat.eq_zero_or_pos (limbsD (valD b * m)).length with h | h
          · omega
          · have h9 := h9 ((limbsD (valD b * m)).length - 1) (by omega)
            have := (Nat.pow_lt_pow_iff_right (by decide : 1 < 10000)).1 (Nat.lt_of_le_of_lt h9 h8)
            omega
        have hcmp := r_cmp (limbsD (valD b * m)) (limbsD R') (limbs_okD _) (limbs_okD _) hcl (by omega)
        rw [val_limbsD, val_limbsD] at hcmp
        simp [rdJ, pD, hlh, e1, e2, e3]
        refine oks_callz [40] .wide [.sl none 1 (encD b) [], .sl none 1 (encD [m]) []] hmul (by simp) (by simp; rfl) (by simp [encD]) ?_
        rintro _ rfl
        refine oks_vc .wide ?_
        simp [pD]
        refine oks_callz [] .wide [.sl none 1 (encD (limbsD (valD b * m))) [], .sl none 1 (encD (limbsD R')) []] hcmp (by simp) (by simp; rfl) (by simp) ?_
        rintro _ rfl
        refine oks_vc .wide ?_
        by_cases hc : valD b * m ≤ R'
        · have hc' := (cmp_leq _ _).2 hc
          simp [hc']
          exact k1' _ (m, hi) ⟨by omega, g2, hc, g4⟩ (by simp only; omega) (sub_iff (by simp [rdJ, pD]))
        · have hc' : ¬ cmpI (valD b * m) R' ≤ 0 := fun h => hc ((cmp_leq _ _).1 h)
          simp [hc', e4]
          exact k1' _ (lo, m - 1) ⟨by omega, by omega, g3, by simp only; rw [show m - 1 + 1 = m by omega]; omega⟩ (by simp only; omega) (sub_iff (by simp [rdJ, pD]))
      · obtain ⟨f1, f2⟩ := hfin lo hi (by omega) g3 g4
        have hlo : lo < 10000 := by omega
        have hqj : q[j]? = some (q[j]'(by omega)) := List.getElem?_eq_getElem _
        have htl : (limbsD lo).length ≤ 1 := by have := limbs_len_leD (okD1 hlo); simpa [valD] using this
        have htrim := r_trim none [lo] (okD1 hlo) (by simp)
        rw [show valD [lo] = lo by simp [valD]] at htrim
        have hmul := r_mul b (limbsD lo) hb (limbs_okD lo) (by omega) (by omega)
        rw [val_limbsD] at hmul
        have hsl : (limbsD (valD b * lo)).length ≤ 900000 := Nat.le_trans (limbs_monoD g3) (by omega)
        have hsub := r_sub (limbsD R') (limbsD (valD b * lo)) (limbs_okD _) (limbs_okD _) (by omega) hsl (by rw [val_limbsD, val_limbsD]; exact g3)
        rw [val_limbsD, val_limbsD, f2] at hsub
        simp [rdJ, pD, hlh]
        refine k2' _ _ (by simp) ?_
        simp [hj, hqj]
        refine oks_callz [55] .wide [.sl none 1 (encD [lo]) []] htrim (by simp) (by simp; rfl) (by simp [encD]) ?_
        rintro _ rfl
        refine oks_vc .wide ?_
        simp
        refine oks_callz [] .wide [.sl none 1 (encD b) [], .sl none 1 (encD (limbsD lo)) []] hmul (by simp) (by simp; rfl) (by simp) ?_
        rintro _ rfl
        refine oks_vc .wide ?_
        simp [pD]
        refine oks_callz [] .wide [.sl none 1 (encD (limbsD R')) [], .sl none 1 (encD (limbsD (valD b * lo))) []] hsub (by simp) (by simp; rfl) (by simp) ?_
        rintro _ rfl
        refine oks_vc .wide ?_
        simp [pD, hwj]
        refine k1 _ (true, j, q.set j lo, R' % valD b) ⟨by simp only; omega, set_okD h2 hlo, by simp [h3], Nat.mod_lt _ hV0, hq5 lo f1, by simp⟩ (by simp) (sub_iff (by simp [rdI, pD]))
    | true =>
      skip
      simp [rdI, pD, hj]
      simp [hj, maxLen_eq, c1, c2, c3, c4]
      refine oks_callz [28] .wide [.sl none 1 (encD (a[j] :: limbsD R)) []] (r_trim none _ okR (by simp; omega)) (by simp) (by simp [show 1 + (limbsD R).length ≤ (limbsD R).length + 1 by omega]; rfl) (by simp [encD]; rw [Nat.add_comm 1, List.take_succ_cons, List.take_of_length_le (by simp)]) ?_
      rintro _ rfl
      refine oks_vc .wide ?_
      rw [vR']
      simp
      refine vc_loop .wide (rdJ a b q j R') (fun z => z.1 ≤ z.2 ∧ z.2 ≤ 9999 ∧ valD b * z.1 ≤ R' ∧ R' < valD b * (z.2 + 1)) (fun z => z.2 - z.1) (0, 9999) ⟨by simp, by simp, by simp, by simp only; omega⟩ (sub_iff (by simp [rdJ, pD, U9999])) ?_
      rintro ⟨lo, hi⟩ ⟨g1, g2, g3, g4⟩ Q' k1' k2'
      simp only at g1 g2 g3 g4
      by_cases hlh : lo < hi
      · obtain ⟨m, hm⟩ : ∃ m, m = (lo + hi + 1) / 2 := ⟨_, rfl⟩
        have e1 := evi_add lo hi (by omega)
        have e2 := evi_inc (lo + hi) (by omega)
        have e3 := evi_half (lo + hi + 1) (by omega)
        rw [← hm] at e3
        have e4 := evi_dec m (by omega) (by omega)
        have hmul := r_mul b [m] hb (okD1 (by omega)) (by omega) (by simp)
        have hv1 : valD [m] = m := by simp [valD]
        rw [hv1] at hmul
        have hcl : (limbsD (valD b * m)).length ≤ 1000000 := by
          have h8 : valD b * m < 10000 ^ (b.length + 1) := by
            rw [Nat.pow_succ]
            exact Nat.lt_of_le_of_lt (Nat.mul_le_mul_left _ (show m ≤ 10000 by omega)) (Nat.mul_lt_mul_of_pos_right hVW (by decide))
          have h9 := limbs_geD (valD b * m)
          rcases Nat.eq_zero_or_pos (limbsD (valD b * m)).length with h | h
          · omega
          · have h9 := h9 ((limbsD (valD b * m)).length - 1) (by omega)
            have := (Nat.pow_lt_pow_iff_right (by decide : 1 < 10000)).1 (Nat.lt_of_le_of_lt h9 h8)
            omega
        have hcmp := r_cmp (limbsD (valD b * m)) (limbsD R') (limbs_okD _) (limbs_okD _) hcl (by omega)
        rw [val_limbsD, val_limbsD] at hcmp
        simp [rdJ, pD, hlh, e1, e2, e3]
        refine oks_callz [40] .wide [.sl none 1 (encD b) [], .sl none 1 (encD [m]) []] hmul (by simp) (by simp; rfl) (by simp [encD]) ?_
        rintro _ rfl
        refine oks_vc .wide ?_
        simp [pD]
        refine oks_callz [] .wide [.sl none 1 (encD (limbsD (valD b * m))) [], .sl none 1 (encD (limbsD R')) []] hcmp (by simp) (by simp; rfl) (by simp) ?_
        rintro _ rfl
        refine oks_vc .wide ?_
        by_cases hc : valD b * m ≤ R'
        · have hc' := (cmp_leq _ _).2 hc
          simp [hc']
          exact k1' _ (m, hi) ⟨by omega, g2, hc, g4⟩ (by simp only; omega) (sub_iff (by simp [rdJ, pD]))
        · have hc' : ¬ cmpI (valD b * m) R' ≤ 0 := fun h => hc ((cmp_leq _ _).1 h)
          simp [hc', e4]
          exact k1' _ (lo, m - 1) ⟨by omega, by omega, g3, by simp only; rw [show m - 1 + 1 = m by omega]; omega⟩ (by simp only; omega) (sub_iff (by simp [rdJ, pD]))
      · obtain ⟨f1, f2⟩ := hfin lo hi (by omega) g3 g4
        have hlo : lo < 10000 := by omega
        have hqj : q[j]? = some (q[j]'(by omega)) := List.getElem?_eq_getElem _
        have htl : (limbsD lo).length ≤ 1 := by have := limbs_len_leD (okD1 hlo); simpa [valD] using this
        have htrim := r_trim none [lo] (okD1 hlo) (by simp)
        rw [show valD [lo] = lo by simp [valD]] at htrim
        have hmul := r_mul b (limbsD lo) hb (limbs_okD lo) (by omega) (by omega)
        rw [val_limbsD] at hmul
        have hsl : (limbsD (valD b * lo)).length ≤ 900000 := Nat.le_trans (limbs_monoD g3) (by omega)
        have hsub := r_sub (limbsD R') (limbsD (valD b * lo)) (limbs_okD _) (limbs_okD _) (by omega) hsl (by rw [val_limbsD, val_limbsD]; exact g3)
        rw [val_limbsD, val_limbsD, f2] at hsub
        simp [rdJ, pD, hlh]
        refine k2' _ _ (by simp) ?_
        simp [hj, hqj]
        refine oks_callz [55] .wide [.sl none 1 (encD [lo]) []] htrim (by simp) (by simp; rfl) (by simp [encD]) ?_
        rintro _ rfl
        refine oks_vc .wide ?_
        simp
        refine oks_callz [] .wide [.sl none 1 (encD b) [], .sl none 1 (encD (limbsD lo)) []] hmul (by simp) (by simp; rfl) (by simp) ?_
        rintro _ rfl
        refine oks_vc .wide ?_
        simp [pD]
        refine oks_callz [] .wide [.sl none 1 (encD (limbsD R')) [], .sl none 1 (encD (limbsD (valD b * lo))) []] hsub (by simp) (by simp; rfl) (by simp) ?_
        rintro _ rfl
        refine oks_vc .wide ?_
        simp [pD, hwj]
        refine k1 _ (true, j, q.set j lo, R' % valD b) ⟨by simp only; omega, set_okD h2 hlo, by simp [h3], Nat.mod_lt _ hV0, hq5 lo f1, by simp⟩ (by simp) (sub_iff (by simp [rdI, pD]))
end Go.Dl
