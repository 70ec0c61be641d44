/- Naturals of base 10000. -/
import Derived.Test.YtjmhdfcmghmgjaaDoorNtY
set_option linter.unusedVariables false
set_option linter.unusedSimpArgs false
set_option maxRecDepth 1000000
namespace Go.Dl
open Go.Proofs

def valD : List Nat → Nat
  | [] => 0
  | d :: r => d + 10000 * valD r
def limbsD (n : Nat) : List Nat := if h : n = 0 then [] else n % 10000 :: limbsD (n / 10000)
termination_by n
decreasing_by omega
def OkLD (l : List Nat) : Prop := ∀ d, d ∈ l → d < 10000
def encD (l : List Nat) : List (List PV) := l.map fun (d : Nat) => [.int .i64 (U d)]
@[simp] theorem enc_lenD (l : List Nat) : (encD l).length = l.length := by simp [encD]
@[simp] theorem enc_nilD : encD [] = [] := rfl
@[simp] theorem enc_getD (l : List Nat) (i : Nat) : (encD l)[i]? = (l[i]?).map fun (n : Nat) => [PV.int .i64 (U n)] := by simp [encD]
theorem enc_appD (a b : List Nat) : encD (a ++ b) = encD a ++ encD b := by simp [encD]
theorem enc_takeD (a : List Nat) (n : Nat) : (encD a).take n = encD (a.take n) := by simp [encD]
theorem enc_dropD (a : List Nat) (n : Nat) : (encD a).drop n = encD (a.drop n) := by simp [encD]
@[simp] theorem enc_setD (a : List Nat) (i v : Nat) : (encD a).set i [.int .i64 (U v)] = encD (a.set i v) := by simp [encD]
theorem limbs_zeroD : limbsD 0 = [] := by rw [limbsD]; simp
theorem limbs_posD {n : Nat} (h : n ≠ 0) : limbsD n = n % 10000 :: limbsD (n / 10000) := by rw [limbsD]; simp [h]
theorem val_limbsD (n : Nat) : valD (limbsD n) = n := by
  induction n using Nat.strongRecOn with
  | ind n ih =>
    by_cases h : n = 0
    · subst h; rw [limbs_zeroD]; rfl
    · rw [limbs_posD h, valD, ih _ (by omega)]; omega
theorem limbs_okD (n : Nat) : OkLD (limbsD n) := by
  induction n using Nat.strongRecOn with
  | ind n ih =>
    by_cases h : n = 0
    · subst h; rw [limbs_zeroD]; intro d hd; cases hd
    · rw [limbs_posD h]
      intro d hd
      rcases List.mem_cons.1 hd with rfl | hd
      · omega
      · exact ih _ (by omega) d hd
theorem val_zerosD {l : List Nat} (h : ∀ d, d ∈ l → d = 0) : valD l = 0 := by
  induction l with
  | nil => rfl
  | cons d r ih => rw [valD, h d (by simp), ih (fun d hd => h d (by simp [hd]))]
theorem limbs_valD : ∀ {l : List Nat}, OkLD l → (∀ k d, l.length = k + 1 → l[k]? = some d → d ≠ 0) → limbsD (valD l) = l
  | [], _, _ => limbs_zeroD
  | d :: r, h, hl => by
    have hd : d < 10000 := h d (by simp)
    have hr : OkLD r := fun e he => h e (by simp [he])
    have ih := limbs_valD hr (fun k e hk he => hl (k + 1) e (by simp [hk]) (by simpa using he))
    have hne : valD (d :: r) ≠ 0 := by
      rw [valD]
      cases r with
      | nil =>
        have := hl 0 d (by simp) (by simp)
        omega
      | cons e r' =>
        intro h0
        have hv : valD (e :: r') = 0 := by omega
        rw [hv, limbs_zeroD] at ih
        cases ih
    rw [limbs_posD hne]
    congr 1
    · rw [valD]; omega
    · rw [valD, show (d + 10000 * valD r) / 10000 = valD r by omega]; exact ih
theorem val_appendD (a b : List Nat) : valD (a ++ b) = valD a + 10000 ^ a.length * valD b := by
  induction a with
  | nil => simp [valD]
  | cons d r ih =>
    simp only [List.cons_append, valD, ih, List.length_cons, Nat.pow_succ]
    rw [Nat.mul_add, Nat.add_assoc]
    congr 2
    rw [← Nat.mul_assoc, Nat.mul_comm 10000 (10000 ^ r.length)]
theorem take_limbsD {l : List Nat} (h : OkLD l) (n : Nat) (hn : n ≤ l.length) (h0 : ∀ k, n ≤ k → k < l.length → l[k]? = some 0) (h1 : ∀ k, n = k + 1 → l[k]? ≠ some 0) : l.take n = limbsD (valD l) := by
  have hv : valD l = valD (l.take n) := by
    conv => lhs; rw [← List.take_append_drop n l, val_appendD]
    rw [val_zerosD (l := l.drop n)]
    · simp
    · intro d hd
      obtain ⟨i, hi⟩ := List.getElem?_of_mem hd
      rw [List.getElem?_drop] at hi
      have hlt := (List.getElem?_eq_some_iff.1 hi).1
      have := h0 (n + i) (by omega) hlt
      rw [hi] at this
      exact Option.some.inj this
  rw [hv, limbs_valD (fun d hd => h d (List.mem_of_mem_take hd))]
  intro k d hk hd
  have hnk : n = k + 1 := by simp at hk; omega
  have hlt : k < n := by omega
  rw [List.getElem?_take_of_lt hlt] at hd
  intro e
  exact h1 k hnk (by rw [hd, e])
theorem val_ltD {l : List Nat} (h : OkLD l) : valD l < 10000 ^ l.length := by
  induction l with
  | nil => simp [valD]
  | cons d r ih =>
    have := ih (fun e he => h e (by simp [he]))
    have hd := h d (by simp)
    rw [valD, List.length_cons, Nat.pow_succ]
    generalize 10000 ^ r.length = q at *
    omega
theorem limbs_len_zeroD {n : Nat} : (limbsD n).length = 0 ↔ n = 0 := by
  constructor
  · intro h
    have := List.eq_nil_of_length_eq_zero h
    rw [← val_limbsD n, this]; rfl
  · rintro rfl; rw [limbs_zeroD]; rfl
theorem val_setD {l : List Nat} {i v : Nat} (hi : i < l.length) : valD (l.set i v) + 10000 ^ i * l[i] = valD l + 10000 ^ i * v := by
  induction l generalizing i with
  | nil => simp at hi
  | cons d r ih =>
    cases i with
    | zero => simp [valD]; omega
    | succ i =>
      have := ih (i := i) (by simpa using hi)
      simp only [List.set_cons_succ, valD, List.getElem_cons_succ, Nat.pow_succ]
      have e1 : 10000 ^ i * 10000 * r[i]'(by simpa using hi) = 10000 * (10000 ^ i * r[i]'(by simpa using hi)) := by
        rw [Nat.mul_comm (10000 ^ i), Nat.mul_assoc]
      have e2 : 10000 ^ i * 10000 * v = 10000 * (10000 ^ i * v) := by
        rw [Nat.mul_comm (10000 ^ i), Nat.mul_assoc]
      rw [e1, e2]
      omega
@[simp] theorem enc_getElemD (l : List Nat) (i : Nat) (h : i < (encD l).length) : (encD l)[i] = [PV.int .i64 (U (l[i]'(by simpa using h)))] := by simp [encD]
theorem digit_eqD (n i : Nat) : (limbsD n)[i]?.getD 0 = n / 10000 ^ i % 10000 := by
  induction i generalizing n with
  | zero =>
    by_cases h : n = 0
    · subst h; simp [limbs_zeroD]
    · rw [limbs_posD h]; simp
  | succ i ih =>
    by_cases h : n = 0
    · subst h; simp [limbs_zeroD]
    · rw [limbs_posD h, List.getElem?_cons_succ, ih, Nat.pow_succ, Nat.mul_comm, Nat.div_div_eq_div_mul]
theorem set_okD {l : List Nat} {i v : Nat} (h : OkLD l) (hv : v < 10000) : OkLD (l.set i v) := by
  intro d hd
  rcases List.mem_or_eq_of_mem_set hd with hd | rfl
  · exact h d hd
  · exact hv
theorem val_take_succD (B : List Nat) (j : Nat) (hj : j < B.length) : valD (B.take (j + 1)) = valD (B.take j) + 10000 ^ j * B[j] := by
  rw [← List.take_append_getElem hj, val_appendD]
  simp [valD, Nat.min_eq_left (Nat.le_of_lt hj)]
theorem limbs_topD (v : Nat) : ∀ k, (limbsD v).length = k + 1 → (limbsD v)[k]? ≠ some 0 := by
  induction v using Nat.strongRecOn with
  | ind v ih =>
    intro k hk
    by_cases h : v = 0
    · rw [h, limbs_zeroD] at hk; simp at hk
    · rw [limbs_posD h] at hk ⊢
      cases k with
      | zero =>
        simp at hk
        have : v / 10000 = 0 := limbs_len_zeroD.1 (by rw [hk]; rfl)
        simp; omega
      | succ k => simpa using ih _ (by omega) k (by simpa using hk)
theorem okL_takeD {l : List Nat} (h : OkLD l) (n : Nat) : OkLD (l.take n) := fun d hd => h d (List.mem_of_mem_take hd)
theorem limbs_lenD (x k : Nat) (h1 : 10000 ^ k ≤ x) (h2 : x < 10000 ^ (k + 1)) : (limbsD x).length = k + 1 := by
  have h3 := val_ltD (limbs_okD x)
  rw [val_limbsD] at h3
  have h4 : k < (limbsD x).length := (Nat.pow_lt_pow_iff_right (by decide : 1 < 10000)).1 (Nat.lt_of_le_of_lt h1 h3)
  rcases Nat.lt_or_ge (k + 1) (limbsD x).length with h5 | h5
  · exfalso
    obtain ⟨j, hj⟩ : ∃ j, (limbsD x).length = j + 1 := ⟨(limbsD x).length - 1, by omega⟩
    have h6 := limbs_topD x j hj
    have h7 := digit_eqD x j
    have h8 : x / 10000 ^ j = 0 := Nat.div_eq_of_lt (Nat.lt_of_lt_of_le h2 (Nat.pow_le_pow_right (by decide) (by omega)))
    rw [h8, Nat.zero_mod] at h7
    rw [List.getElem?_eq_getElem (by omega)] at h6 h7
    exact h6 (by rw [← h7]; rfl)
  · omega
theorem limbs_geD (x k : Nat) (h : (limbsD x).length = k + 1) : 10000 ^ k ≤ x := by
  refine Nat.le_of_not_lt fun h1 => ?_
  have h6 := limbs_topD x k h
  have h7 := digit_eqD x k
  rw [Nat.div_eq_of_lt h1, Nat.zero_mod] at h7
  rw [List.getElem?_eq_getElem (by omega)] at h6 h7
  exact h6 (by rw [← h7]; rfl)
theorem limbs_ltD (x : Nat) : x < 10000 ^ (limbsD x).length := by
  have := val_ltD (limbs_okD x)
  rwa [val_limbsD] at this
theorem val_splitD (l : List Nat) (j : Nat) (h : j ≤ l.length) : valD l = valD (l.take j) + 10000 ^ j * valD (l.drop j) := by
  conv => lhs; rw [← List.take_append_drop j l, val_appendD, List.length_take, Nat.min_eq_left h]
theorem limbs_len_leD {U : List Nat} (h : OkLD U) : (limbsD (valD U)).length ≤ U.length := by
  rcases Nat.eq_zero_or_pos (limbsD (valD U)).length with h0 | h0
  · omega
  · obtain ⟨k, hk⟩ : ∃ k, (limbsD (valD U)).length = k + 1 := ⟨(limbsD (valD U)).length - 1, by omega⟩
    have h1 := limbs_geD _ k hk
    have h2 := val_ltD h
    have := (Nat.pow_lt_pow_iff_right (by decide : 1 < 10000)).1 (Nat.lt_of_le_of_lt h1 h2)
    omega
theorem limbs_monoD {a b : Nat} (h : a ≤ b) : (limbsD a).length ≤ (limbsD b).length := by
  rcases Nat.eq_zero_or_pos (limbsD a).length with h0 | h0
  · omega
  · obtain ⟨k, hk⟩ : ∃ k, (limbsD a).length = k + 1 := ⟨(limbsD a).length - 1, by omega⟩
    have h1 := limbs_geD _ k hk
    have h2 := limbs_ltD b
    have := (Nat.pow_lt_pow_iff_right (by decide : 1 < 10000)).1 (Nat.lt_of_le_of_lt (Nat.le_trans h1 h) h2)
    omega
end Go.Dl
