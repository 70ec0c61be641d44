/- Decimal text of a natural. -/
import Derived.Test.YtjmhdfcmghmgjaaDoorNtL
set_option linter.unusedVariables false
set_option linter.unusedSimpArgs false
set_option maxRecDepth 1000000
namespace Go.Dl
open Go.Proofs

def decT (v : Nat) : List UInt8 := if h : v < 10 then [UInt8.ofNat (48 + v)] else decT (v / 10) ++ [UInt8.ofNat (48 + v % 10)]
termination_by v
decreasing_by omega
theorem decT_lt {v : Nat} (h : v < 10) : decT v = [UInt8.ofNat (48 + v)] := by rw [decT]; simp [h]
theorem decT_ge {v : Nat} (h : ¬ v < 10) : decT v = decT (v / 10) ++ [UInt8.ofNat (48 + v % 10)] := by rw [decT]; simp [h]
theorem ofNat_toNat48 {d : Nat} (h : d < 10) : (UInt8.ofNat (48 + d)).toNat = 48 + d := by
  rw [UInt8.toNat_ofNat']; omega
theorem decT_head (v : Nat) (h : 0 < v) : ∃ b r, decT v = b :: r ∧ b.toNat ≠ 48 := by
  induction v using Nat.strongRecOn with
  | ind v ih =>
    by_cases h1 : v < 10
    · exact ⟨_, [], decT_lt h1, by rw [ofNat_toNat48 h1]; omega⟩
    · obtain ⟨b, r, e, hb⟩ := ih (v / 10) (by omega) (by omega)
      exact ⟨b, r ++ [UInt8.ofNat (48 + v % 10)], by rw [decT_ge h1, e]; rfl, hb⟩
theorem decT_dig (v : Nat) : (decT v).all isDig = true := by
  induction v using Nat.strongRecOn with
  | ind v ih =>
    by_cases h1 : v < 10
    · rw [decT_lt h1]; simp only [List.all_cons, List.all_nil, Bool.and_true, isDig, ofNat_toNat48 h1, Bool.and_eq_true, decide_eq_true_eq]; omega
    · rw [decT_ge h1, List.all_append, ih _ (by omega)]
      simp only [List.all_cons, List.all_nil, Bool.and_true, isDig, ofNat_toNat48 (show v % 10 < 10 by omega), Bool.true_and, Bool.and_eq_true, decide_eq_true_eq]; omega
theorem decval_decT (v : Nat) : decval (decT v) = v := by
  induction v using Nat.strongRecOn with
  | ind v ih =>
    by_cases h1 : v < 10
    · rw [decT_lt h1]; simp only [decval, List.foldl_cons, List.foldl_nil, ofNat_toNat48 h1]; omega
    · rw [decT_ge h1, decval_app, ih _ (by omega), ofNat_toNat48 (by omega)]; omega
theorem isNum_decT (v : Nat) : isNum (decT v) = true := by
  by_cases h : v = 0
  · subst h; decide +kernel
  · obtain ⟨b, r, e, hb⟩ := decT_head v (by omega)
    have := decT_dig v
    unfold isNum
    rw [this, e]
    simp [hb]
theorem decT_parse (s : List UInt8) (h : isNum s = true) : decT (decval s) = s := by
  have key : ∀ (n : Nat) (s : List UInt8), s.length = n → s.all isDig = true → (∃ b r, s = b :: r ∧ b.toNat ≠ 48) → 0 < decval s ∧ decT (decval s) = s := by
    intro n
    induction n with
    | zero => intro s hs _ ⟨b, r, e, _⟩; subst e; simp at hs
    | succ n ih =>
      intro s hs hd ⟨b, r, e, hb⟩
      obtain ⟨t, c, rfl⟩ : ∃ t c, s = t ++ [c] := ⟨s.dropLast, s.getLast (by rw [e]; simp), (List.dropLast_concat_getLast (by rw [e]; simp)).symm⟩
      simp only [List.all_append, List.all_cons, List.all_nil, Bool.and_true, Bool.and_eq_true] at hd
      have hc := hd.2
      simp only [isDig, Bool.and_eq_true, decide_eq_true_eq] at hc
      rw [decval_app]
      have hcc : UInt8.ofNat (48 + (c.toNat - 48)) = c := by rw [show 48 + (c.toNat - 48) = c.toNat by omega]; simp
      cases t with
      | nil =>
        simp only [List.nil_append, List.cons.injEq] at e
        obtain ⟨rfl, _⟩ := e
        have : decval [] = 0 := rfl
        rw [this, Nat.zero_mul, Nat.zero_add, decT_lt (by omega), hcc]
        exact ⟨by omega, rfl⟩
      | cons y t =>
        simp only [List.cons_append, List.cons.injEq] at e
        obtain ⟨rfl, _⟩ := e
        obtain ⟨h1, h2⟩ := ih (y :: t) (by simpa using hs) hd.1 ⟨y, t, rfl, hb⟩
        rw [decT_ge (by omega), show (decval (y :: t) * 10 + (c.toNat - 48)) / 10 = decval (y :: t) by omega, h2, show (decval (y :: t) * 10 + (c.toNat - 48)) % 10 = c.toNat - 48 by omega, hcc]
        exact ⟨by omega, rfl⟩
  unfold isNum at h
  rw [Bool.and_eq_true, Bool.or_eq_true] at h
  obtain ⟨hd, h | h⟩ := h
  · have : s = [48] := by simpa using h
    subst this
    decide +kernel
  · cases s with
    | nil => cases h
    | cons b r => exact (key _ (b :: r) rfl hd ⟨b, r, rfl, by simpa using h⟩).2

/-- the lowest k digits, the lowest first -/
def lowD : Nat → Nat → List Nat
  | 0, _ => []
  | k + 1, v => (48 + v % 10) :: lowD k (v / 10)
theorem lowD_len : ∀ (k v : Nat), (lowD k v).length = k
  | 0, _ => rfl
  | k + 1, v => by simp [lowD, lowD_len k]
theorem lowD_snoc : ∀ (k v : Nat), lowD (k + 1) v = lowD k v ++ [48 + v / 10 ^ k % 10]
  | 0, v => by simp [lowD]
  | k + 1, v => by
    rw [lowD, lowD_snoc k (v / 10), Nat.div_div_eq_div_mul, show 10 * 10 ^ k = 10 ^ (k + 1) by rw [Nat.pow_succ, Nat.mul_comm]]
    rfl
theorem lowD_text : ∀ (k v : Nat), v < 10 ^ k → ((lowD k v).reverse.map UInt8.ofNat).dropWhile (· == 48) = if v = 0 then [] else decT v
  | 0, v, h => by
    have : v = 0 := by simpa using h
    subst this; rfl
  | k + 1, v, h => by
    have ih := lowD_text k (v / 10) (by rw [Nat.pow_succ] at h; omega)
    rw [lowD, List.reverse_cons, List.map_append, List.dropWhile_append]
    by_cases h0 : v / 10 = 0
    · rw [if_pos h0] at ih
      rw [ih]
      have hm : v % 10 = v := by omega
      simp only [List.isEmpty_nil, if_true, List.map_cons, List.map_nil, hm]
      by_cases hv : v = 0
      · subst hv; decide +kernel
      · rw [if_neg hv, decT_lt (by omega)]
        have : (UInt8.ofNat (48 + v) == 48) = false := by
          rw [beq_eq_false_iff_ne]
          intro e
          have := congrArg UInt8.toNat e
          rw [ofNat_toNat48 (by omega)] at this
          have h48 : (48 : UInt8).toNat = 48 := rfl
          omega
        show List.dropWhile (· == 48) [UInt8.ofNat (48 + v)] = _
        rw [List.dropWhile_cons, this]; rfl
    · rw [if_neg h0] at ih
      rw [ih]
      obtain ⟨b, r, e, hb⟩ := decT_head (v / 10) (by omega)
      have hem : (decT (v / 10)).isEmpty = false := by rw [e]; rfl
      rw [hem, if_neg (by simp), if_neg (show ¬ v = 0 by omega), decT_ge (show ¬ v < 10 by omega)]
      rfl

theorem bytesOf_encB : ∀ l : List Nat, bytesOf (encB l) = some (l.map UInt8.ofNat)
  | [] => rfl
  | d :: r => by
    have ih := bytesOf_encB r
    simp only [encB] at ih ⊢
    simp only [List.map_cons, bytesOf, byteOf, ih]
    congr 2
theorem ev_rem10 (a : Nat) : evBin .rem (.int .u32 (U a)) (.int .u32 10) = some (.int .u32 (U (a % 10))) := by
  simp only [evBin, if_true]; unfold U
  rw [if_neg (by decide)]
  congr 2
theorem ev_quo10 (a : Nat) (h : a < 4294967296) : evBin .quo (.int .u32 (U a)) (.int .u32 10) = some (.int .u32 (U (a / 10))) := by
  simp only [evBin, if_true, wrap_u32']; unfold U
  rw [if_neg (by decide)]
  congr 2
  rw [Int.tdiv_eq_ediv_of_nonneg (by omega)]
  omega
theorem ev_add48 (a : Nat) (h : a < 10) : evBin .add (.int .u32 48) (.int .u32 (U a)) = some (.int .u32 (U (48 + a))) := by
  simp only [evBin, if_true, wrap_u32']; unfold U
  congr 2
  omega
end Go.Dl
