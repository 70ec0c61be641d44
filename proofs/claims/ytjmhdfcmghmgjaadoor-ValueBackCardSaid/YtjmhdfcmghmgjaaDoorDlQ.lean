/- Naturals as limbs; what machine integers come to; lengths. -/
import Derived.Test.YtjmhdfcmghmgjaaDoorDlP
import Derived.Laws.Bits64
set_option linter.unusedVariables false
set_option linter.unusedSimpArgs false
namespace Go.Dl

/-! ### limbs -/

def val : List Nat → Nat
  | [] => 0
  | d :: r => d + 4294967296 * val r
def limbs (n : Nat) : List Nat := if h : n = 0 then [] else n % 4294967296 :: limbs (n / 4294967296)
termination_by n
decreasing_by omega
/-- a natural as a machine integer; simp leaves it whole -/
def U (n : Nat) : Int := n
@[simp] theorem U_zero : U 0 = 0 := rfl
@[simp] theorem U_inj (a b : Nat) : U a = U b ↔ a = b := by unfold U; omega
def OkL (l : List Nat) : Prop := ∀ d, d ∈ l → d < 4294967296
def enc (l : List Nat) : List (List PV) := l.map fun (d : Nat) => [.int .u32 (U d)]
def encNat (n : Nat) : PV := .agg [.sl none 1 (enc (limbs n)) []]

@[simp] theorem enc_len (l : List Nat) : (enc l).length = l.length := by simp [enc]
@[simp] theorem enc_nil : enc [] = [] := rfl
@[simp] theorem enc_get (l : List Nat) (i : Nat) : (enc l)[i]? = (l[i]?).map fun (n : Nat) => [PV.int .u32 (U n)] := by simp [enc]
theorem enc_app (a b : List Nat) : enc (a ++ b) = enc a ++ enc b := by simp [enc]
theorem enc_take (a : List Nat) (n : Nat) : (enc a).take n = enc (a.take n) := by simp [enc]
theorem enc_drop (a : List Nat) (n : Nat) : (enc a).drop n = enc (a.drop n) := by simp [enc]
@[simp] theorem enc_set (a : List Nat) (i v : Nat) : (enc a).set i [.int .u32 (U v)] = enc (a.set i v) := by simp [enc]

theorem limbs_zero : limbs 0 = [] := by rw [limbs]; simp
theorem limbs_pos {n : Nat} (h : n ≠ 0) : limbs n = n % 4294967296 :: limbs (n / 4294967296) := by rw [limbs]; simp [h]
theorem val_limbs (n : Nat) : val (limbs n) = n := by
  induction n using Nat.strongRecOn with
  | ind n ih =>
    by_cases h : n = 0
    · subst h; rw [limbs_zero]; rfl
    · rw [limbs_pos h, val, ih _ (by omega)]; omega
theorem limbs_ok (n : Nat) : OkL (limbs n) := by
  induction n using Nat.strongRecOn with
  | ind n ih =>
    by_cases h : n = 0
    · subst h; rw [limbs_zero]; intro d hd; cases hd
    · rw [limbs_pos h]
      intro d hd
      rcases List.mem_cons.1 hd with rfl | hd
      · omega
      · exact ih _ (by omega) d hd
theorem val_zeros {l : List Nat} (h : ∀ d, d ∈ l → d = 0) : val l = 0 := by
  induction l with
  | nil => rfl
  | cons d r ih => rw [val, h d (by simp), ih (fun d hd => h d (by simp [hd]))]
theorem limbs_val : ∀ {l : List Nat}, OkL l → (∀ k d, l.length = k + 1 → l[k]? = some d → d ≠ 0) → limbs (val l) = l
  | [], _, _ => limbs_zero
  | d :: r, h, hl => by
    have hd : d < 4294967296 := h d (by simp)
    have hr : OkL r := fun e he => h e (by simp [he])
    have ih := limbs_val hr (fun k e hk he => hl (k + 1) e (by simp [hk]) (by simpa using he))
    have hne : val (d :: r) ≠ 0 := by
      rw [val]
      cases r with
      | nil =>
        have := hl 0 d (by simp) (by simp)
        omega
      | cons e r' =>
        intro h0
        have hv : val (e :: r') = 0 := by omega
        rw [hv, limbs_zero] at ih
        cases ih
    rw [limbs_pos hne]
    congr 1
    · rw [val]; omega
    · rw [val, show (d + 4294967296 * val r) / 4294967296 = val r by omega]; exact ih
theorem val_append (a b : List Nat) : val (a ++ b) = val a + 4294967296 ^ a.length * val b := by
  induction a with
  | nil => simp [val]
  | cons d r ih =>
    simp only [List.cons_append, val, ih, List.length_cons, Nat.pow_succ]
    rw [Nat.mul_add, Nat.add_assoc]
    congr 2
    rw [← Nat.mul_assoc, Nat.mul_comm 4294967296 (4294967296 ^ r.length)]
theorem take_limbs {l : List Nat} (h : OkL l) (n : Nat) (hn : n ≤ l.length) (h0 : ∀ k, n ≤ k → k < l.length → l[k]? = some 0) (h1 : ∀ k, n = k + 1 → l[k]? ≠ some 0) : l.take n = limbs (val l) := by
  have hv : val l = val (l.take n) := by
    conv => lhs; rw [← List.take_append_drop n l, val_append]
    rw [val_zeros (l := l.drop n)]
    · simp
    · intro d hd
      obtain ⟨i, hi⟩ := List.getElem?_of_mem hd
      rw [List.getElem?_drop] at hi
      have hlt := (List.getElem?_eq_some_iff.1 hi).1
      have := h0 (n + i) (by omega) hlt
      rw [hi] at this
      exact Option.some.inj this
  rw [hv, limbs_val (fun d hd => h d (List.mem_of_mem_take hd))]
  intro k d hk hd
  have hnk : n = k + 1 := by simp at hk; omega
  have hlt : k < n := by omega
  rw [List.getElem?_take_of_lt hlt] at hd
  intro e
  exact h1 k hnk (by rw [hd, e])
theorem val_lt {l : List Nat} (h : OkL l) : val l < 4294967296 ^ l.length := by
  induction l with
  | nil => simp [val]
  | cons d r ih =>
    have := ih (fun e he => h e (by simp [he]))
    have hd := h d (by simp)
    rw [val, List.length_cons, Nat.pow_succ]
    generalize 4294967296 ^ r.length = q at *
    omega
theorem limbs_len_zero {n : Nat} : (limbs n).length = 0 ↔ n = 0 := by
  constructor
  · intro h
    have := List.eq_nil_of_length_eq_zero h
    rw [← val_limbs n, this]; rfl
  · rintro rfl; rw [limbs_zero]; rfl
theorem val_set {l : List Nat} {i v : Nat} (hi : i < l.length) : val (l.set i v) + 4294967296 ^ i * l[i] = val l + 4294967296 ^ i * v := by
  induction l generalizing i with
  | nil => simp at hi
  | cons d r ih =>
    cases i with
    | zero => simp [val]; omega
    | succ i =>
      have := ih (i := i) (by simpa using hi)
      simp only [List.set_cons_succ, val, List.getElem_cons_succ, Nat.pow_succ]
      have e1 : 4294967296 ^ i * 4294967296 * r[i]'(by simpa using hi) = 4294967296 * (4294967296 ^ i * r[i]'(by simpa using hi)) := by
        rw [Nat.mul_comm (4294967296 ^ i), Nat.mul_assoc]
      have e2 : 4294967296 ^ i * 4294967296 * v = 4294967296 * (4294967296 ^ i * v) := by
        rw [Nat.mul_comm (4294967296 ^ i), Nat.mul_assoc]
      rw [e1, e2]
      omega

/-! ### machine integers -/

theorem wrap_U64 (n : Nat) : IntKind.u64.wrap (U n) = U (n % 18446744073709551616) := by rw [IntKind.wrap_u64]; unfold U; omega
theorem wrap_u32' (n : Int) : IntKind.u32.wrap n = n % 4294967296 := by simp [IntKind.wrap, IntKind.bits, IntKind.signed]
theorem wrap_u8' (n : Int) : IntKind.u8.wrap n = n % 256 := by simp [IntKind.wrap, IntKind.bits, IntKind.signed]
theorem wrap_U32 (n : Nat) : IntKind.u32.wrap (U n) = U (n % 4294967296) := by rw [wrap_u32']; unfold U; omega
theorem wrap_U8 (n : Nat) : IntKind.u8.wrap (U n) = U (n % 256) := by rw [wrap_u8']; unfold U; omega
attribute [simp] wrap_U64 wrap_U32 wrap_U8
section
variable (a b : Nat)
@[simp high] theorem ev_add64 : evBin .add (.int .u64 (U a)) (.int .u64 (U b)) = some (.int .u64 (U ((a + b) % 18446744073709551616))) := by
  simp only [evBin, if_true, IntKind.wrap_u64]; unfold U; congr 2
@[simp high] theorem ev_mul64 : evBin .mul (.int .u64 (U a)) (.int .u64 (U b)) = some (.int .u64 (U ((a * b) % 18446744073709551616))) := by
  simp only [evBin, if_true, IntKind.wrap_u64]; unfold U; congr 2
@[simp high] theorem ev_sub64 : evBin .sub (.int .u64 (U a)) (.int .u64 (U b)) = some (.int .u64 (U ((a + (18446744073709551616 - b % 18446744073709551616)) % 18446744073709551616))) := by
  simp only [evBin, if_true, IntKind.wrap_u64]; unfold U; congr 2; omega
@[simp high] theorem ev_quo64 : evBin .quo (.int .u64 (U a)) (.int .u64 (U b)) = if b = 0 then none else some (.int .u64 (U (a / b % 18446744073709551616))) := by
  simp only [evBin, if_true, IntKind.wrap_u64]; unfold U
  by_cases h : b = 0
  · subst h; simp
  · rw [if_neg (by omega), if_neg h]
    congr 2
@[simp high] theorem ev_rem64 : evBin .rem (.int .u64 (U a)) (.int .u64 (U b)) = if b = 0 then none else some (.int .u64 (U (a % b))) := by
  simp only [evBin, if_true]; unfold U
  by_cases h : b = 0
  · subst h; simp
  · rw [if_neg (by omega), if_neg h]
    congr 2
@[simp high] theorem ev_shl64 : evBin .shl (.int .u64 (U a)) (.int .u64 32) = some (.int .u64 (U (a * 4294967296 % 18446744073709551616))) := by
  simp only [evBin, IntKind.wrap_u64]
  rw [if_neg (by decide)]
  unfold U; congr 2
@[simp high] theorem ev_shr64 : evBin .shr (.int .u64 (U a)) (.int .u64 32) = some (.int .u64 (U (a / 4294967296))) := by
  simp only [evBin]
  rw [if_neg (by decide)]
  unfold U; congr 2
  show (a : Int).fdiv (2 ^ 32) = _
  rw [Int.fdiv_eq_ediv_of_nonneg _ (by decide)]
  omega
theorem bv64 : (BitVec.ofInt 64 (U a)).toNat = a % 18446744073709551616 := by
  rw [BitVec.toNat_ofInt]; unfold U; omega
@[simp high] theorem ev_low64 : evBin .and (.int .u64 (U a)) (.int .u64 4294967295) = some (.int .u64 (U (a % 4294967296))) := by
  simp only [evBin, if_true, IntKind.wrap_u64]
  show some (PV.int .u64 (((BitVec.ofInt 64 (U a) &&& BitVec.ofInt 64 4294967295).toNat : Int) % 18446744073709551616)) = _
  rw [BitVec.toNat_and, bv64, show (BitVec.ofInt 64 4294967295).toNat = 2 ^ 32 - 1 by decide, Nat.and_two_pow_sub_one_eq_mod]
  unfold U; congr 2; omega
@[simp high] theorem ev_one64 : evBin .and (.int .u64 (U a)) (.int .u64 1) = some (.int .u64 (U (a % 2))) := by
  simp only [evBin, if_true, IntKind.wrap_u64]
  show some (PV.int .u64 (((BitVec.ofInt 64 (U a) &&& BitVec.ofInt 64 1).toNat : Int) % 18446744073709551616)) = _
  rw [BitVec.toNat_and, bv64, show (BitVec.ofInt 64 1).toNat = 2 ^ 1 - 1 by decide, Nat.and_two_pow_sub_one_eq_mod]
  unfold U; congr 2; omega
/-- the limb above, the limb below -/
theorem or_limbs (h : b < 4294967296) : a * 4294967296 ||| b = a * 4294967296 + b := by
  have := Nat.shiftLeft_add_eq_or_of_lt (i := 32) h a
  rw [Nat.shiftLeft_eq] at this
  exact this.symm
@[simp high] theorem ev_or64 : evBin .or (.int .u64 (U a)) (.int .u64 (U b)) = some (.int .u64 (U (a % 18446744073709551616 ||| b % 18446744073709551616))) := by
  simp only [evBin, if_true, IntKind.wrap_u64]
  show some (PV.int .u64 (((BitVec.ofInt 64 (U a) ||| BitVec.ofInt 64 (U b)).toNat : Int) % 18446744073709551616)) = _
  have h : (BitVec.ofInt 64 (U a) ||| BitVec.ofInt 64 (U b)).toNat < 18446744073709551616 := (BitVec.ofInt 64 (U a) ||| BitVec.ofInt 64 (U b)).isLt
  rw [BitVec.toNat_or, bv64, bv64] at *
  unfold U; congr 2; omega
variable (k : IntKind)
@[simp high] theorem ev_lssU : evBin .lss (.int k (U a)) (.int k (U b)) = some (.bool (decide (a < b))) := by
  simp only [evBin, if_true]; unfold U; congr 2; exact decide_eq_decide.2 (by omega)
@[simp high] theorem ev_leqU : evBin .leq (.int k (U a)) (.int k (U b)) = some (.bool (decide (a ≤ b))) := by
  simp only [evBin, if_true]; unfold U; congr 2; exact decide_eq_decide.2 (by omega)
@[simp high] theorem ev_gtrU : evBin .gtr (.int k (U a)) (.int k (U b)) = some (.bool (decide (b < a))) := by
  simp only [evBin, if_true]; unfold U; congr 2; exact decide_eq_decide.2 (by omega)
@[simp high] theorem ev_eqlU : evBin .eql (.int k (U a)) (.int k (U b)) = some (.bool (decide (a = b))) := by
  simp only [evBin, if_true]; congr 2
  by_cases h : a = b
  · subst h; simp
  · have : ¬ U a = U b := by unfold U; omega
    simp [h, this]
@[simp high] theorem ev_eqlU0 : evBin .eql (.int k (U a)) (.int k 0) = some (.bool (decide (a = 0))) := ev_eqlU a 0 k
@[simp high] theorem ev_gtrU0 : evBin .gtr (.int k (U a)) (.int k 0) = some (.bool (decide (0 < a))) := ev_gtrU a 0 k
@[simp high] theorem ev_gtrUlow : evBin .gtr (.int k (U a)) (.int k 4294967295) = some (.bool (decide (4294967295 < a))) := ev_gtrU a 4294967295 k
end
theorem wrap_i64 {n : Int} (h : -9223372036854775808 ≤ n ∧ n ≤ 9223372036854775807) : IntKind.i64.wrap n = n := by rw [IntKind.wrap_i64]; omega

/-! ### lengths -/

def PV.lenok : PV → Prop
  | .sl _ _ rows _ => rows.length ≤ 9223372036854775807
  | .str s => s.length ≤ 9223372036854775807 ∨ True
  | .agg cs => ∀ o sz rows sp, PV.sl o sz rows sp ∈ cs → rows.length ≤ 9223372036854775807
  | _ => True
theorem PRel.lenok0 {w : World} {S : Nat → Prop} {o : Option Bool} {sz : Nat} {rows sp : List (List PV)} {v : Value} (h : PRel w S (.sl o sz rows sp) v) : rows.length ≤ 9223372036854775807 := by
  cases h with
  | slnil o sz ho => simp
  | sl o ho sz rows spare b off cap f h1 hb hsz hcap hmax hcell hrel =>
    have : maxLen = 9223372036854775807 := by decide
    omega
theorem PRel.lenok {w : World} {S : Nat → Prop} {p : PV} {v : Value} (h : PRel w S p v) : p.lenok := by
  cases p with
  | sl o sz rows sp => exact h.lenok0
  | agg cs =>
    cases h with | agg _ vs hl hrel =>
    intro o sz rows sp hm
    obtain ⟨i, hi⟩ := List.getElem?_of_mem hm
    have hlt : i < vs.length := by rw [← hl]; exact (List.getElem?_eq_some_iff.1 hi).1
    exact (hrel i _ _ hi (List.getElem?_eq_getElem hlt)).lenok0
  | str s => exact .inr trivial
  | _ => trivial
theorem PCall.lens {P : Program} {f : FuncId} {args : List PV} {R : PV → Prop} (h : (∀ p, p ∈ args → p.lenok) → PCall P f args R) : PCall P f args R := by
  intro w S vs hS hl hrel
  refine h (fun p hp => ?_) w S vs hS hl hrel
  obtain ⟨i, hi⟩ := List.getElem?_of_mem hp
  have hlt : i < vs.length := by rw [← hl]; exact (List.getElem?_eq_some_iff.1 hi).1
  exact (hrel i _ _ hi (List.getElem?_eq_getElem hlt)).lenok
end Go.Dl
