/- Naturals as limbs; what machine integers come to; lengths. The program: its draws; the compiled functions of hornbeam/nat. Empty slices of any size of elements are alike. Contracts of hornbeam/nat: the small ones. Contracts of hornbeam/nat: those that change their limbs. Contracts of hornbeam/nat: more of them. Contracts of hornbeam/nat: Cmp. Contracts of hornbeam/nat: more. Contracts of hornbeam/nat: reading. Contracts of hornbeam/nat: Parse. Contracts of hornbeam/nat: Parse itself. Contracts of hornbeam/nat: trim of limbs of one's own. slices.Reverse of bytes. Contracts of strings: IndexByte, Cut at one byte, CutPrefix, TrimLeft of one byte. -/
import Derived.Test.YtjmhdfcmghmgjaaDoorA7
import Derived.Laws.Bits64
import Derived.Test.YtjmhdfcmghmgjaaDoorProg
import Derived.KernelRfl
import Derived.Test.YtjmhdfcmghmgjaaDoorChecked
import Derived.Lib.Strings
import Derived.Lib.Slices
import Derived.Lib.Walk
import Derived.Lib.Bytealg
set_option linter.unusedVariables false
set_option linter.unusedSimpArgs false
namespace Go.Dl

/-! ### limbs -/

def val : List Nat → Nat
  | [] => 0
  | d :: r => d + 4294967296 * val r
def limbs (n : Nat) : List Nat := if h : n = 0 then [] else n % 4294967296 :: limbs (n / 4294967296)
termination_by n
decreasing_by omega
/-- a natural as a machine integer; simp leaves it whole -/
def U (n : Nat) : Int := n
@[simp] theorem U_zero : U 0 = 0 := rfl
@[simp] theorem U_inj (a b : Nat) : U a = U b ↔ a = b := by unfold U; omega
def OkL (l : List Nat) : Prop := ∀ d, d ∈ l → d < 4294967296
def enc (l : List Nat) : List (List PV) := l.map fun (d : Nat) => [.int .u32 (U d)]
def encNat (n : Nat) : PV := .agg [.sl none 1 (enc (limbs n)) []]

@[simp] theorem enc_len (l : List Nat) : (enc l).length = l.length := by simp [enc]
@[simp] theorem enc_nil : enc [] = [] := rfl
@[simp] theorem enc_get (l : List Nat) (i : Nat) : (enc l)[i]? = (l[i]?).map fun (n : Nat) => [PV.int .u32 (U n)] := by simp [enc]
theorem enc_app (a b : List Nat) : enc (a ++ b) = enc a ++ enc b := by simp [enc]
theorem enc_take (a : List Nat) (n : Nat) : (enc a).take n = enc (a.take n) := by simp [enc]
theorem enc_drop (a : List Nat) (n : Nat) : (enc a).drop n = enc (a.drop n) := by simp [enc]
@[simp] theorem enc_set (a : List Nat) (i v : Nat) : (enc a).set i [.int .u32 (U v)] = enc (a.set i v) := by simp [enc]

theorem limbs_zero : limbs 0 = [] := by rw [limbs]; simp
theorem limbs_pos {n : Nat} (h : n ≠ 0) : limbs n = n % 4294967296 :: limbs (n / 4294967296) := by rw [limbs]; simp [h]
theorem val_limbs (n : Nat) : val (limbs n) = n := by
  induction n using Nat.strongRecOn with
  | ind n ih =>
    by_cases h : n = 0
    · subst h; rw [limbs_zero]; rfl
    · rw [limbs_pos h, val, ih _ (by omega)]; omega
theorem limbs_ok (n : Nat) : OkL (limbs n) := by
  induction n using Nat.strongRecOn with
  | ind n ih =>
    by_cases h : n = 0
    · subst h; rw [limbs_zero]; intro d hd; cases hd
    · rw [limbs_pos h]
      intro d hd
      rcases List.mem_cons.1 hd with rfl | hd
      · omega
      · exact ih _ (by omega) d hd
theorem val_zeros {l : List Nat} (h : ∀ d, d ∈ l → d = 0) : val l = 0 := by
  induction l with
  | nil => rfl
  | cons d r ih => rw [val, h d (by simp), ih (fun d hd => h d (by simp [hd]))]
theorem limbs_val : ∀ {l : List Nat}, OkL l → (∀ k d, l.length = k + 1 → l[k]? = some d → d ≠ 0) → limbs (val l) = l
  | [], _, _ => limbs_zero
  | d :: r, h, hl => by
    have hd : d < 4294967296 := h d (by simp)
    have hr : OkL r := fun e he => h e (by simp [he])
    have ih := limbs_val hr (fun k e hk he => hl (k + 1) e (by simp [hk]) (by simpa using he))
    have hne : val (d :: r) ≠ 0 := by
      rw [val]
      cases r with
      | nil =>
        have := hl 0 d (by simp) (by simp)
        omega
      | cons e r' =>
        intro h0
        have hv : val (e :: r') = 0 := by omega
        rw [hv, limbs_zero] at ih
        cases ih
    rw [limbs_pos hne]
    congr 1
    · rw [val]; omega
    · rw [val, show (d + 4294967296 * val r) / 4294967296 = val r by omega]; exact ih
theorem val_append (a b : List Nat) : val (a ++ b) = val a + 4294967296 ^ a.length * val b := by
  induction a with
  | nil => simp [val]
  | cons d r ih =>
    simp only [List.cons_append, val, ih, List.length_cons, Nat.pow_succ]
    rw [Nat.mul_add, Nat.add_assoc]
    congr 2
    rw [← Nat.mul_assoc, Nat.mul_comm 4294967296 (4294967296 ^ r.length)]
theorem take_limbs {l : List Nat} (h : OkL l) (n : Nat) (hn : n ≤ l.length) (h0 : ∀ k, n ≤ k → k < l.length → l[k]? = some 0) (h1 : ∀ k, n = k + 1 → l[k]? ≠ some 0) : l.take n = limbs (val l) := by
  have hv : val l = val (l.take n) := by
    conv => lhs; rw [← List.take_append_drop n l, val_append]
    rw [val_zeros (l := l.drop n)]
    · simp
    · intro d hd
      obtain ⟨i, hi⟩ := List.getElem?_of_mem hd
      rw [List.getElem?_drop] at hi
      have hlt := (List.getElem?_eq_some_iff.1 hi).1
      have := h0 (n + i) (by omega) hlt
      rw [hi] at this
      exact Option.some.inj this
  rw [hv, limbs_val (fun d hd => h d (List.mem_of_mem_take hd))]
  intro k d hk hd
  have hnk : n = k + 1 := by simp at hk; omega
  have hlt : k < n := by omega
  rw [List.getElem?_take_of_lt hlt] at hd
  intro e
  exact h1 k hnk (by rw [hd, e])
theorem val_lt {l : List Nat} (h : OkL l) : val l < 4294967296 ^ l.length := by
  induction l with
  | nil => simp [val]
  | cons d r ih =>
    have := ih (fun e he => h e (by simp [he]))
    have hd := h d (by simp)
    rw [val, List.length_cons, Nat.pow_succ]
    generalize 4294967296 ^ r.length = q at *
    omega
theorem limbs_len_zero {n : Nat} : (limbs n).length = 0 ↔ n = 0 := by
  constructor
  · intro h
    have := List.eq_nil_of_length_eq_zero h
    rw [← val_limbs n, this]; rfl
  · rintro rfl; rw [limbs_zero]; rfl
theorem val_set {l : List Nat} {i v : Nat} (hi : i < l.length) : val (l.set i v) + 4294967296 ^ i * l[i] = val l + 4294967296 ^ i * v := by
  induction l generalizing i with
  | nil => simp at hi
  | cons d r ih =>
    cases i with
    | zero => simp [val]; omega
    | succ i =>
      have := ih (i := i) (by simpa using hi)
      simp only [List.set_cons_succ, val, List.getElem_cons_succ, Nat.pow_succ]
      have e1 : 4294967296 ^ i * 4294967296 * r[i]'(by simpa using hi) = 4294967296 * (4294967296 ^ i * r[i]'(by simpa using hi)) := by
        rw [Nat.mul_comm (4294967296 ^ i), Nat.mul_assoc]
      have e2 : 4294967296 ^ i * 4294967296 * v = 4294967296 * (4294967296 ^ i * v) := by
        rw [Nat.mul_comm (4294967296 ^ i), Nat.mul_assoc]
      rw [e1, e2]
      omega

/-! ### machine integers -/

theorem wrap_U64 (n : Nat) : IntKind.u64.wrap (U n) = U (n % 18446744073709551616) := by rw [IntKind.wrap_u64]; unfold U; omega
theorem wrap_u32' (n : Int) : IntKind.u32.wrap n = n % 4294967296 := by simp [IntKind.wrap, IntKind.bits, IntKind.signed]
theorem wrap_u8' (n : Int) : IntKind.u8.wrap n = n % 256 := by simp [IntKind.wrap, IntKind.bits, IntKind.signed]
theorem wrap_U32 (n : Nat) : IntKind.u32.wrap (U n) = U (n % 4294967296) := by rw [wrap_u32']; unfold U; omega
theorem wrap_U8 (n : Nat) : IntKind.u8.wrap (U n) = U (n % 256) := by rw [wrap_u8']; unfold U; omega
attribute [simp] wrap_U64 wrap_U32 wrap_U8
section
variable (a b : Nat)
@[simp high] theorem ev_add64 : evBin .add (.int .u64 (U a)) (.int .u64 (U b)) = some (.int .u64 (U ((a + b) % 18446744073709551616))) := by
  simp only [evBin, if_true, IntKind.wrap_u64]; unfold U; congr 2
@[simp high] theorem ev_mul64 : evBin .mul (.int .u64 (U a)) (.int .u64 (U b)) = some (.int .u64 (U ((a * b) % 18446744073709551616))) := by
  simp only [evBin, if_true, IntKind.wrap_u64]; unfold U; congr 2
@[simp high] theorem ev_sub64 : evBin .sub (.int .u64 (U a)) (.int .u64 (U b)) = some (.int .u64 (U ((a + (18446744073709551616 - b % 18446744073709551616)) % 18446744073709551616))) := by
  simp only [evBin, if_true, IntKind.wrap_u64]; unfold U; congr 2; omega
@[simp high] theorem ev_quo64 : evBin .quo (.int .u64 (U a)) (.int .u64 (U b)) = if b = 0 then none else some (.int .u64 (U (a / b % 18446744073709551616))) := by
  simp only [evBin, if_true, IntKind.wrap_u64]; unfold U
  by_cases h : b = 0
  · subst h; simp
  · rw [if_neg (by omega), if_neg h]
    congr 2
@[simp high] theorem ev_rem64 : evBin .rem (.int .u64 (U a)) (.int .u64 (U b)) = if b = 0 then none else some (.int .u64 (U (a % b))) := by
  simp only [evBin, if_true]; unfold U
  by_cases h : b = 0
  · subst h; simp
  · rw [if_neg (by omega), if_neg h]
    congr 2
@[simp high] theorem ev_shl64 : evBin .shl (.int .u64 (U a)) (.int .u64 32) = some (.int .u64 (U (a * 4294967296 % 18446744073709551616))) := by
  simp only [evBin, IntKind.wrap_u64]
  rw [if_neg (by decide)]
  unfold U; congr 2
@[simp high] theorem ev_shr64 : evBin .shr (.int .u64 (U a)) (.int .u64 32) = some (.int .u64 (U (a / 4294967296))) := by
  simp only [evBin]
  rw [if_neg (by decide)]
  unfold U; congr 2
  show (a : Int).fdiv (2 ^ 32) = _
  rw [Int.fdiv_eq_ediv_of_nonneg _ (by decide)]
  omega
theorem bv64 : (BitVec.ofInt 64 (U a)).toNat = a % 18446744073709551616 := by
  rw [BitVec.toNat_ofInt]; unfold U; omega
@[simp high] theorem ev_low64 : evBin .and (.int .u64 (U a)) (.int .u64 4294967295) = some (.int .u64 (U (a % 4294967296))) := by
  simp only [evBin, if_true, IntKind.wrap_u64]
  show some (PV.int .u64 (((BitVec.ofInt 64 (U a) &&& BitVec.ofInt 64 4294967295).toNat : Int) % 18446744073709551616)) = _
  rw [BitVec.toNat_and, bv64, show (BitVec.ofInt 64 4294967295).toNat = 2 ^ 32 - 1 by decide, Nat.and_two_pow_sub_one_eq_mod]
  unfold U; congr 2; omega
@[simp high] theorem ev_one64 : evBin .and (.int .u64 (U a)) (.int .u64 1) = some (.int .u64 (U (a % 2))) := by
  simp only [evBin, if_true, IntKind.wrap_u64]
  show some (PV.int .u64 (((BitVec.ofInt 64 (U a) &&& BitVec.ofInt 64 1).toNat : Int) % 18446744073709551616)) = _
  rw [BitVec.toNat_and, bv64, show (BitVec.ofInt 64 1).toNat = 2 ^ 1 - 1 by decide, Nat.and_two_pow_sub_one_eq_mod]
  unfold U; congr 2; omega
/-- the limb above, the limb below -/
theorem or_limbs (h : b < 4294967296) : a * 4294967296 ||| b = a * 4294967296 + b := by
  have := Nat.shiftLeft_add_eq_or_of_lt (i := 32) h a
  rw [Nat.shiftLeft_eq] at this
  exact this.symm
@[simp high] theorem ev_or64 : evBin .or (.int .u64 (U a)) (.int .u64 (U b)) = some (.int .u64 (U (a % 18446744073709551616 ||| b % 18446744073709551616))) := by
  simp only [evBin, if_true, IntKind.wrap_u64]
  show some (PV.int .u64 (((BitVec.ofInt 64 (U a) ||| BitVec.ofInt 64 (U b)).toNat : Int) % 18446744073709551616)) = _
  have h : (BitVec.ofInt 64 (U a) ||| BitVec.ofInt 64 (U b)).toNat < 18446744073709551616 := (BitVec.ofInt 64 (U a) ||| BitVec.ofInt 64 (U b)).isLt
  rw [BitVec.toNat_or, bv64, bv64] at *
  unfold U; congr 2; omega
variable (k : IntKind)
@[simp high] theorem ev_lssU : evBin .lss (.int k (U a)) (.int k (U b)) = some (.bool (decide (a < b))) := by
  simp only [evBin, if_true]; unfold U; congr 2; exact decide_eq_decide.2 (by omega)
@[simp high] theorem ev_leqU : evBin .leq (.int k (U a)) (.int k (U b)) = some (.bool (decide (a ≤ b))) := by
  simp only [evBin, if_true]; unfold U; congr 2; exact decide_eq_decide.2 (by omega)
@[simp high] theorem ev_gtrU : evBin .gtr (.int k (U a)) (.int k (U b)) = some (.bool (decide (b < a))) := by
  simp only [evBin, if_true]; unfold U; congr 2; exact decide_eq_decide.2 (by omega)
@[simp high] theorem ev_eqlU : evBin .eql (.int k (U a)) (.int k (U b)) = some (.bool (decide (a = b))) := by
  simp only [evBin, if_true]; congr 2
  by_cases h : a = b
  · subst h; simp
  · have : ¬ U a = U b := by unfold U; omega
    simp [h, this]
@[simp high] theorem ev_eqlU0 : evBin .eql (.int k (U a)) (.int k 0) = some (.bool (decide (a = 0))) := ev_eqlU a 0 k
@[simp high] theorem ev_gtrU0 : evBin .gtr (.int k (U a)) (.int k 0) = some (.bool (decide (0 < a))) := ev_gtrU a 0 k
@[simp high] theorem ev_gtrUlow : evBin .gtr (.int k (U a)) (.int k 4294967295) = some (.bool (decide (4294967295 < a))) := ev_gtrU a 4294967295 k
end
theorem wrap_i64 {n : Int} (h : -9223372036854775808 ≤ n ∧ n ≤ 9223372036854775807) : IntKind.i64.wrap n = n := by rw [IntKind.wrap_i64]; omega

/-! ### lengths -/

def PV.lenok : PV → Prop
  | .sl _ _ rows _ => rows.length ≤ 9223372036854775807
  | .str s => s.length ≤ 9223372036854775807 ∨ True
  | .agg cs => ∀ o sz rows sp, PV.sl o sz rows sp ∈ cs → rows.length ≤ 9223372036854775807
  | _ => True
theorem PRel.lenok0 {w : World} {S : Nat → Prop} {o : Option Bool} {sz : Nat} {rows sp : List (List PV)} {v : Value} (h : PRel w S (.sl o sz rows sp) v) : rows.length ≤ 9223372036854775807 := by
  cases h with
  | slnil o sz ho => simp
  | slz o sz ho a => simp
  | sl o ho sz rows spare b off cap f h1 hb hsz hcap hmax hcell hrel =>
    have : maxLen = 9223372036854775807 := by decide
    omega
theorem PRel.lenok {w : World} {S : Nat → Prop} {p : PV} {v : Value} (h : PRel w S p v) : p.lenok := by
  cases p with
  | sl o sz rows sp => exact h.lenok0
  | agg cs =>
    cases h with | agg _ vs hl hrel =>
    intro o sz rows sp hm
    obtain ⟨i, hi⟩ := List.getElem?_of_mem hm
    have hlt : i < vs.length := by rw [← hl]; exact (List.getElem?_eq_some_iff.1 hi).1
    exact (hrel i _ _ hi (List.getElem?_eq_getElem hlt)).lenok0
  | str s => exact .inr trivial
  | _ => trivial
theorem PCall.lens {P : Program} {f : FuncId} {args : List PV} {R : PV → Prop} (h : (∀ p, p ∈ args → p.lenok) → PCall P f args R) : PCall P f args R := by
  intro w S vs hS hl hrel
  refine h (fun p hp => ?_) w S vs hS hl hrel
  obtain ⟨i, hi⟩ := List.getElem?_of_mem hp
  have hlt : i < vs.length := by rw [← hl]; exact (List.getElem?_eq_some_iff.1 hi).1
  exact (hrel i _ _ hi (List.getElem?_eq_getElem hlt)).lenok
end Go.Dl
set_option linter.unusedVariables false
set_option maxRecDepth 1000000
namespace Go.Dl
open Go.Proofs

theorem good_fok : Tryd.prog.funcs.all fOk = true := by kernel_rfl
theorem good_mixed : Tryd.prog.follows .mixedOrders = true := by kernel_rfl
instance good : DGood Tryd.prog := ⟨good_fok, good_mixed⟩
noncomputable def c_trim : { d : DFn // compF Tryd.prog 66 = some d } := by
  refine ⟨?_, ?_⟩
  rotate_left
  · conv => lhs; reduce
noncomputable def c_zero : { d : DFn // compF Tryd.prog 67 = some d } := by
  refine ⟨?_, ?_⟩
  rotate_left
  · conv => lhs; reduce
noncomputable def c_of : { d : DFn // compF Tryd.prog 72 = some d } := by
  refine ⟨?_, ?_⟩
  rotate_left
  · conv => lhs; reduce
noncomputable def c_at : { d : DFn // compF Tryd.prog 101 = some d } := by
  refine ⟨?_, ?_⟩
  rotate_left
  · conv => lhs; reduce
noncomputable def c_less : { d : DFn // compF Tryd.prog 78 = some d } := by
  refine ⟨?_, ?_⟩
  rotate_left
  · conv => lhs; reduce
noncomputable def c_more : { d : DFn // compF Tryd.prog 65 = some d } := by
  refine ⟨?_, ?_⟩
  rotate_left
  · conv => lhs; reduce
noncomputable def c_clone32 : { d : DFn // compF Tryd.prog 77 = some d } := by
  refine ⟨?_, ?_⟩
  rotate_left
  · conv => lhs; reduce
noncomputable def c_number : { d : DFn // compF Tryd.prog 64 = some d } := by
  refine ⟨?_, ?_⟩
  rotate_left
  · conv => lhs; reduce
noncomputable def c_cmp : { d : DFn // compF Tryd.prog 80 = some d } := by
  refine ⟨?_, ?_⟩
  rotate_left
  · conv => lhs; reduce
noncomputable def c_mul : { d : DFn // compF Tryd.prog 74 = some d } := by
  refine ⟨?_, ?_⟩
  rotate_left
  · conv => lhs; reduce
noncomputable def c_natparse : { d : DFn // compF Tryd.prog 42 = some d } := by
  refine ⟨?_, ?_⟩
  rotate_left
  · conv => lhs; reduce
noncomputable def c_nattext : { d : DFn // compF Tryd.prog 47 = some d } := by
  refine ⟨?_, ?_⟩
  rotate_left
  · conv => lhs; reduce
noncomputable def c_divmod : { d : DFn // compF Tryd.prog 91 = some d } := by
  refine ⟨?_, ?_⟩
  rotate_left
  · conv => lhs; reduce
noncomputable def c_gcd : { d : DFn // compF Tryd.prog 90 = some d } := by
  refine ⟨?_, ?_⟩
  rotate_left
  · conv => lhs; reduce
noncomputable def c_long : { d : DFn // compF Tryd.prog 106 = some d } := by
  refine ⟨?_, ?_⟩
  rotate_left
  · conv => lhs; reduce
noncomputable def c_shift : { d : DFn // compF Tryd.prog 117 = some d } := by
  refine ⟨?_, ?_⟩
  rotate_left
  · conv => lhs; reduce
noncomputable def c_down : { d : DFn // compF Tryd.prog 124 = some d } := by
  refine ⟨?_, ?_⟩
  rotate_left
  · conv => lhs; reduce
noncomputable def c_guess : { d : DFn // compF Tryd.prog 125 = some d } := by
  refine ⟨?_, ?_⟩
  rotate_left
  · conv => lhs; reduce
noncomputable def c_step : { d : DFn // compF Tryd.prog 118 = some d } := by
  refine ⟨?_, ?_⟩
  rotate_left
  · conv => lhs; reduce
noncomputable def c_reverse : { d : DFn // compF Tryd.prog 79 = some d } := by
  refine ⟨?_, ?_⟩
  rotate_left
  · conv => lhs; reduce
end Go.Dl
set_option linter.unusedVariables false
set_option linter.unusedSimpArgs false
namespace Go.Dl

@[simp] def PV.rsz0 : PV → PV → Prop
  | .sl o sz rows sp, q => match q with
    | .sl o' sz' rows' sp' => o = o' ∧ rows = rows' ∧ sp = sp' ∧ (sz = sz' ∨ (rows = [] ∧ sp = []))
    | _ => False
  | p, q => p = q
@[simp] def rszL0 : List PV → List PV → Prop
  | [], [] => True
  | p :: ps, q :: qs => p.rsz0 q ∧ rszL0 ps qs
  | _, _ => False
@[simp] def PV.rsz1 : PV → PV → Prop
  | .agg cs, q => match q with
    | .agg ds => rszL0 cs ds
    | _ => False
  | p, q => p.rsz0 q
@[simp] def rszL1 : List PV → List PV → Prop
  | [], [] => True
  | p :: ps, q :: qs => p.rsz1 q ∧ rszL1 ps qs
  | _, _ => False
@[simp] def PV.rsz : PV → PV → Prop
  | .tup cs, q => match q with
    | .tup ds => rszL1 cs ds
    | _ => False
  | p, q => p.rsz1 q

section
variable {w : World} {S : Nat → Prop}
theorem PRel.rsz0 {p q : PV} {v : Value} (h : PRel w S p v) (hr : p.rsz0 q) : PRel w S q v := by
  cases p with
  | sl o sz rows sp =>
    cases q with
    | sl o' sz' rows' sp' =>
      simp only [PV.rsz0] at hr
      obtain ⟨rfl, rfl, rfl, hsz⟩ := hr
      rcases hsz with rfl | ⟨rfl, rfl⟩
      · exact h
      · cases h with
        | slnil _ _ ho => exact .slnil _ _ ho
        | slz _ _ ho a => exact .slz _ _ ho _
        | sl _ ho _ _ _ b off cap f h1 hb _ hcap hmax _ _ =>
          exact .sl o ho sz' [] [] b off cap f h1 hb (fun r hr => by simp at hr) hcap hmax (fun i j c hc => by simp [rowAt] at hc) (fun i j c hc => by simp [rowAt] at hc)
    | _ => simp [PV.rsz0] at hr
  | _ => simp only [PV.rsz0] at hr; subst hr; exact h
theorem rszL0_get : ∀ {ps qs : List PV}, rszL0 ps qs → ps.length = qs.length ∧ ∀ (i : Nat) (q : PV), qs[i]? = some q → ∃ p, ps[i]? = some p ∧ p.rsz0 q
  | [], [], _ => ⟨rfl, fun i q h => by simp at h⟩
  | p :: ps, q :: qs, h => by
    obtain ⟨h1, h2⟩ := rszL0_get h.2
    refine ⟨by simp [h1], fun i q' hq => ?_⟩
    cases i with
    | zero => simp at hq; subst hq; exact ⟨p, rfl, h.1⟩
    | succ i => simpa using h2 i q' (by simpa using hq)
  | [], _ :: _, h => h.elim
  | _ :: _, [], h => h.elim
theorem PRel.rsz1 {p q : PV} {v : Value} (h : PRel w S p v) (hr : p.rsz1 q) : PRel w S q v := by
  cases p with
  | agg cs =>
    cases q with
    | agg ds =>
      cases h with | agg _ vs hl hrel =>
      obtain ⟨h1, h2⟩ := rszL0_get (show rszL0 cs ds from hr)
      refine .agg ds vs (by rw [← h1, hl]) fun i c v hc hv => ?_
      obtain ⟨p, hp, hpq⟩ := h2 i c hc
      exact (hrel i p v hp hv).rsz0 hpq
    | _ => simp [PV.rsz1] at hr
  | _ => exact h.rsz0 hr
theorem rszL1_get : ∀ {ps qs : List PV}, rszL1 ps qs → ps.length = qs.length ∧ ∀ (i : Nat) (q : PV), qs[i]? = some q → ∃ p, ps[i]? = some p ∧ p.rsz1 q
  | [], [], _ => ⟨rfl, fun i q h => by simp at h⟩
  | p :: ps, q :: qs, h => by
    obtain ⟨h1, h2⟩ := rszL1_get h.2
    refine ⟨by simp [h1], fun i q' hq => ?_⟩
    cases i with
    | zero => simp at hq; subst hq; exact ⟨p, rfl, h.1⟩
    | succ i => simpa using h2 i q' (by simpa using hq)
  | [], _ :: _, h => h.elim
  | _ :: _, [], h => h.elim
theorem PRel.rsz {p q : PV} {v : Value} (h : PRel w S p v) (hr : p.rsz q) : PRel w S q v := by
  cases p with
  | tup cs =>
    cases q with
    | tup ds =>
      cases h with | tup _ vs hl hrel =>
      obtain ⟨h1, h2⟩ := rszL1_get (show rszL1 cs ds from hr)
      refine .tup ds vs (by rw [← h1, hl]) fun i c v hc hv => ?_
      obtain ⟨p, hp, hpq⟩ := h2 i c hc
      exact (hrel i p v hp hv).rsz1 hpq
    | _ => simp [PV.rsz] at hr
  | _ => exact h.rsz1 hr
end

section
variable {F : Fence} {P : Program} {nt : Nat} {x : Fx} {st : St} {f : FuncId}

theorem PCall.rsz_res {args : List PV} {R : PV → Prop} (h : PCall P f args (fun r => ∃ r', r.rsz r' ∧ R r')) : PCall P f args R :=
  fun w S vs h1 h2 h3 => (h w S vs h1 h2 h3).mono fun e w' ⟨v, r, a, ⟨r', hr, hR⟩, c, d⟩ => ⟨v, r', a, hR, c, d.rsz hr⟩
theorem PCall.rsz_args {args qs : List PV} {R : PV → Prop} (h : PCall P f qs R) (hz : rszL1 args qs) : PCall P f args R := by
  intro w S vs h1 h2 h3
  obtain ⟨hl, hg⟩ := rszL1_get hz
  refine h w S vs h1 (by rw [← hl, h2]) fun i c v hc hv => ?_
  obtain ⟨p, hp, hpq⟩ := hg i c hc
  exact (h3 i p v hp hv).rsz1 hpq

/-- a function's contract by what is owed for its body; empty slices are alike -/
theorem pcall_vcz [DGood P] {args : List PV} {R : PV → Prop} (D : { d : DFn // compF P f = some d }) (hl : args.length ≤ D.1.nt)
    (h : ∀ (x : Fx) (K : PV → Prop), (∀ r r', R r' → r.rsz r' → K r) → VC Fence.wide P D.1.nt x D.1.code (retQ D.1.res K) ⟨D.1.nt, argsT 0 args, []⟩) : PCall P f args R :=
  PCall.rsz_res (pcall_of D.2 hl fun x => vc_ok .wide _ (h x (fun r => ∃ r', r.rsz r' ∧ R r') fun r r' h1 h2 => ⟨r', h2, h1⟩))

/-- a pure call, whose arguments read as qs -/
theorem oks_callz (ks : List Nat) (hF : Free F) {R : St → Prop} {ops : List DOper} {d : Nat} {f : FuncId} {l : List DOpd} {g : Option (Nat × Bool)} {ps : List PV} (qs : List PV) {Rc : PV → Prop}
    (hc : PCall P f qs Rc) (hg : gOk (st.frz ks) g) (hp : pures (l.map (st.frz ks).ev) = some ps) (hz : rszL1 (ps.map PV.norm) qs) (h : ∀ r, Rc r → OkOps F P nt x ops R ((st.frz ks).set d (.p r))) : OkOps F P nt x (⟨some d, .call f l, g⟩ :: ops) R st :=
  oks_callf ks hF hg hp (hc.rsz_args hz) h
/-- a call that only looks -/
theorem oks_callsz (hF : Free F) {R : St → Prop} {ops : List DOper} {d : Nat} {f : FuncId} {l : List DOpd} {g : Option (Nat × Bool)} {ps : List PV} (qs : List PV) {Rc : PV → Prop}
    (hc : PCall P f qs Rc) (hg : gOk st g) (hp : snapL st (l.map st.ev) = some ps) (hz : rszL1 ps qs) (hsc : ∀ r, Rc r → r.scalar = true) (h : ∀ r, Rc r → OkOps F P nt x ops R (st.set d (.p r))) : OkOps F P nt x (⟨some d, .call f l, g⟩ :: ops) R st :=
  oks_calls hF hg hp (hc.rsz_args hz) hsc h
theorem dcall_pz {f : Nat} {l : List DOpd} {st : St} {k : DV → Prop} {ps : List PV} (qs : List PV) (r : PV) (hc : PCall P f qs (· = r)) (hp : pures (l.map st.ev) = some ps) (hz : rszL1 (ps.map PV.norm) qs) (hk : k (.p r)) : dcall P f l st k :=
  dcall_p r hp (hc.rsz_args hz) hk
theorem dcall_sz {f : Nat} {l : List DOpd} {st : St} {k : DV → Prop} {ps : List PV} (qs : List PV) (r : PV) (hc : PCall P f qs (· = r)) (hp : snapL st (l.map st.ev) = some ps) (hz : rszL1 ps qs) (hs : r.scalar = true) (hk : k (.p r)) : dcall P f l st k :=
  dcall_s r hp (hc.rsz_args hz) hs hk
end
end Go.Dl
set_option linter.unusedVariables false
set_option linter.unusedSimpArgs false
set_option maxRecDepth 1000000
namespace Go.Dl
open Go.Proofs

theorem t_trim (o : Option Bool) (l : List Nat) (sp : List (List PV)) (hl : OkL l) : PCall Tryd.prog 66 [.sl o 1 (enc l) sp] (· = encNat (val l)) := by
  refine PCall.lens fun hlen => ?_
  have hlen : l.length ≤ 9223372036854775807 := by simpa [PV.lenok] using hlen
  refine pcall_vc c_trim (by simp [c_trim]) fun x K hK => ?_
  simp [c_trim]
  refine vc_loop .wide (fun n : Nat => ⟨23, [(3, .p (.int .i64 n)), (0, .p (.sl o 1 (enc l) sp)), (2, .ptr 2 1 0 0)], [(2, ⟨false, 1, .p [[.sl (some true) 0 [] []]]⟩)]⟩)
    (fun n => n ≤ l.length ∧ ∀ k, n ≤ k → k < l.length → l[k]? = some 0) id l.length ⟨Nat.le_refl _, by omega⟩ ?_ ?_
  · refine sub_iff ?_
    simp
  · intro n hn Q h1 h2
    have fin : (∀ k, n = k + 1 → l[k]? ≠ some 0) → K (PV.agg [PV.sl none 1 (enc (l.take n)) []]) := fun h0 => by
      rw [take_limbs hl n hn.1 hn.2 h0]
      exact hK _ rfl
    by_cases h0 : n = 0
    · subst h0
      simp
      refine h2 _ _ (by simp) ?_
      simp
      simpa using fin (by omega)
    · obtain ⟨m, rfl⟩ : ∃ m, n = m + 1 := ⟨n - 1, by omega⟩
      have hw : IntKind.i64.wrap (m : Int) = m := wrap_i64 (by omega)
      have hlt : m < l.length := by omega
      have hg : (enc l ++ sp)[m]? = some [.int .u32 (U l[m])] := by rw [List.getElem?_append_left (by simpa using hlt), enc_get, List.getElem?_eq_getElem hlt]; rfl
      by_cases hz : l[m] = 0
      · simp [hw, hlt, hz, hg]
        refine h1 _ m ⟨by omega, fun k hk hk' => ?_⟩ (by simp) (sub_iff (by simp))
        by_cases e : k = m
        · subst e; simp [hlt, hz]
        · exact hn.2 k (by omega) hk'
      · simp [hw, hlt, hz, hg]
        refine h2 _ _ (by simp) ?_
        have := fin (fun k hk => by
          have : k = m := by omega
          subst this
          simp [hlt, hz])
        simp [enc_take, hn.1, show (0:Int) ≤ (m:Int) + 1 by omega, show m + 1 ≤ l.length + sp.length by omega, List.take_append_of_le_length]
        exact this
end Go.Dl
set_option linter.unusedVariables false
set_option linter.unusedSimpArgs false
set_option maxRecDepth 1000000
namespace Go.Dl
open Go.Proofs

theorem t_less (l t : List Nat) (room b : Nat) (hb : 0 < b) (hb' : b < 4294967296) (hl : OkL l) (hlen : l.length ≤ 1000000) :
    MCall Tryd.prog 78 [.own 1000 1 0 l.length room, .p (.int .u32 (U b))] [(1000, ⟨false, 1, .p (enc (l ++ t))⟩)]
      (fun r H => ∃ q, q.length = l.length ∧ OkL q ∧ val q = val l / b ∧ lk H 1000 = some ⟨false, 1, .p (enc (q ++ t))⟩ ∧ r = .p (.int .u32 (U (val l % b)))) := by
  refine mcall_vc c_less (by simp [c_less]) (by simp [c_less]) fun x K hK => ?_
  simp [c_less]
  refine vc_loop .wide (fun y : Nat × List Nat × Nat => ⟨36, [(6, .p (.int .i64 ((y.1 : Int) - 1))), (5, .p (.int .u64 (U y.2.2))), (0, .own 1000 1 0 l.length room), (1, .p (.int .u32 (U b)))], [(1000, ⟨false, 1, .p (enc (l.take y.1 ++ y.2.1 ++ t))⟩)]⟩)
    (fun y => y.1 ≤ l.length ∧ y.2.1.length = l.length - y.1 ∧ OkL y.2.1 ∧ y.2.2 < b ∧ val (l.drop y.1) = b * val y.2.1 + y.2.2) (fun y => y.1) (l.length, [], 0) ⟨Nat.le_refl _, by simp, by simp [OkL], hb, by simp [val]⟩ ?_ ?_
  · refine sub_iff ?_
    have hw : IntKind.i64.wrap ((l.length : Int) - 1) = (l.length : Int) - 1 := wrap_i64 (by omega)
    simp [hw]
  · rintro ⟨k, q, r⟩ ⟨h1, h2, h3, h4, h5⟩ Q g1 g2
    simp only at h1 h2 h3 h4 h5
    by_cases h0 : k = 0
    · subst h0
      simp
      refine g2 _ _ (by simp) ?_
      simp
      simp at h5
      refine hK _ _ ⟨q, by omega, h3, ?_, by simp, ?_⟩
      · rw [h5, Nat.mul_add_div hb, Nat.div_eq_of_lt h4]; omega
      · rw [h5, Nat.mul_add_mod, Nat.mod_eq_of_lt h4, Nat.mod_eq_of_lt (by omega)]
    · obtain ⟨m, rfl⟩ : ∃ m, k = m + 1 := ⟨k - 1, by omega⟩
      have hlt : m < l.length := by omega
      have hd : l[m] < 4294967296 := hl _ (List.getElem_mem hlt)
      obtain ⟨cur, hcur⟩ : ∃ c, c = l.take (m + 1) ++ q ++ t := ⟨_, rfl⟩
      have hg : cur[m]? = some l[m] := by
        rw [hcur, List.append_assoc, List.getElem?_append_left (by simp; omega), List.getElem?_take_of_lt (by omega), List.getElem?_eq_getElem hlt]
      have hn : (r * 4294967296 % 18446744073709551616 ||| l[m] % 18446744073709551616) = r * 4294967296 + l[m] := by
        rw [Nat.mod_eq_of_lt (a := r * 4294967296) (by omega), Nat.mod_eq_of_lt (a := l[m]) (by omega)]
        exact or_limbs r l[m] hd
      have hb64 : b % 18446744073709551616 = b := Nat.mod_eq_of_lt (by omega)
      have hb0 : ¬ b = 0 := by omega
      have hx : (r * 4294967296 + l[m]) / b < 4294967296 := (Nat.div_lt_iff_lt_mul hb).2 (by
        have : (r + 1) * 4294967296 ≤ b * 4294967296 := Nat.mul_le_mul_right _ h4
        omega)
      have hx1 : (r * 4294967296 + l[m]) / b % 18446744073709551616 = (r * 4294967296 + l[m]) / b := Nat.mod_eq_of_lt (by omega)
      have hx2 : (r * 4294967296 + l[m]) / b % 4294967296 = (r * 4294967296 + l[m]) / b := Nat.mod_eq_of_lt hx
      have hw : IntKind.i64.wrap ((m : Int) - 1) = (m : Int) - 1 := wrap_i64 (by omega)
      have hset : cur.set m ((r * 4294967296 + l[m]) / b) = l.take m ++ (((r * 4294967296 + l[m]) / b) :: q) ++ t := by
        rw [hcur, List.append_assoc, List.set_append_left _ _ (by simp; omega)]
        rw [← List.take_append_getElem hlt, List.set_append_right _ _ (by simp; omega)]
        simp [Nat.min_eq_left (Nat.le_of_lt hlt)]
      simp only [← hcur]
      simp [hw, hlt, hg, hn, hb64, hb0, hx1, hx2, hset]
      refine g1 _ (m, ((r * 4294967296 + l[m]) / b) :: q, (r * 4294967296 + l[m]) % b) ⟨by omega, by simp [h2]; omega, ?_, Nat.mod_lt _ hb, ?_⟩ (by simp) (sub_iff ?_)
      · intro d hd'
        rcases List.mem_cons.1 hd' with rfl | hd'
        · exact hx
        · exact h3 d hd'
      · simp only
        rw [List.drop_eq_getElem_cons hlt, val, val, h5]
        have key : ∀ u v X : Nat, b * u + v = X → X = r * 4294967296 + l[m] → l[m] + 4294967296 * (b * val q + r) = b * (u + 4294967296 * val q) + v := by
          intro u v X k1 k2
          rw [Nat.mul_add b, Nat.mul_left_comm b 4294967296]
          omega
        exact key _ _ _ (Nat.div_add_mod _ b) rfl
      · simp
end Go.Dl
set_option linter.unusedVariables false
set_option linter.unusedSimpArgs false
set_option maxRecDepth 1000000
namespace Go.Dl
open Go.Proofs

@[simp] theorem enc_getElem (l : List Nat) (i : Nat) (h : i < (enc l).length) : (enc l)[i] = [PV.int .u32 (U (l[i]'(by simpa using h)))] := by simp [enc]
theorem maxLen_eq : maxLen = 9223372036854775807 := by decide

theorem t_clone32 (l : List Nat) (h0 : l ≠ []) (hlen : l.length ≤ 1000000) :
    MCall Tryd.prog 77 [.p (.sl none 1 (enc l) [])] [] (fun r H => ∃ k, r = .own k 1 0 l.length l.length ∧ lk H k = some ⟨false, 1, .p (enc l)⟩) := by
  refine MCall.nilcase [] ?_ ?_
  · refine mcall_vc c_clone32 (by simp [c_clone32]) (by simp [c_clone32]) fun x K hK => ?_
    simp [c_clone32, maxLen_eq, show l.length * 4 ≤ 140737488355328 by omega, show l.length ≤ 9223372036854775807 by omega]
    exact hK _ _ ⟨7, rfl, by simp⟩
  · intro h
    exact (h0 (by simpa [enc] using h)).elim

theorem t_zero (n : Nat) : PCall Tryd.prog 67 [encNat n] (· = .bool (decide (n = 0))) := by
  refine pcall_vc c_zero (by simp [c_zero]) fun x K hK => ?_
  simp [c_zero, encNat]
  refine hK _ ?_
  congr 1
  by_cases h : n = 0
  · subst h; simp [limbs_zero]
  · have : ¬ (limbs n).length = 0 := fun e => h (limbs_len_zero.1 e)
    simp [h]
    intro e
    exact this (by rw [e]; rfl)
theorem t_at (n i : Nat) : PCall Tryd.prog 101 [encNat n, .int .i64 (i : Int)] (· = .int .u32 (U ((limbs n)[i]?.getD 0))) := by
  refine pcall_vc c_at (by simp [c_at]) fun x K hK => ?_
  by_cases h : i < (limbs n).length
  · simp [c_at, encNat, h, show ¬ (limbs n).length ≤ i by omega]
    exact hK _ (by simp [h])
  · simp [c_at, encNat, h, show (limbs n).length ≤ i by omega]
    exact hK _ (by simp [h])
theorem t_of (v : Nat) (hv : v < 18446744073709551616) : PCall Tryd.prog 72 [.int .u64 (U v)] (· = encNat v) := by
  refine pcall_vc c_of (by simp [c_of]) fun x K hK => ?_
  simp [c_of]
  have hv2 : v = val [v % 4294967296, v / 4294967296 % 4294967296] := by simp only [val]; omega
  refine oks_callz [9] .wide [.sl none 1 (enc [v % 4294967296, v / 4294967296 % 4294967296]) []] (t_trim none _ _ ?_) (by simp) (by simp; rfl) (by simp [enc]) ?_
  · intro d hd
    simp at hd
    omega
  · rintro r rfl
    rw [← hv2]
    refine oks_vc .wide ?_
    simp [encNat]
    exact hK _ (by simp [encNat])
end Go.Dl
set_option linter.unusedVariables false
set_option linter.unusedSimpArgs false
set_option maxRecDepth 1000000
namespace Go.Dl
open Go.Proofs

theorem digit_eq (n i : Nat) : (limbs n)[i]?.getD 0 = n / 4294967296 ^ i % 4294967296 := by
  induction i generalizing n with
  | zero =>
    by_cases h : n = 0
    · subst h; simp [limbs_zero]
    · rw [limbs_pos h]; simp
  | succ i ih =>
    by_cases h : n = 0
    · subst h; simp [limbs_zero]
    · rw [limbs_pos h, List.getElem?_cons_succ, ih, Nat.pow_succ, Nat.mul_comm, Nat.div_div_eq_div_mul]
theorem digit_step (n m : Nat) : n / 4294967296 ^ m = n / 4294967296 ^ (m + 1) * 4294967296 + n / 4294967296 ^ m % 4294967296 := by
  rw [Nat.pow_succ, ← Nat.div_div_eq_div_mul]
  generalize n / 4294967296 ^ m = u
  omega
theorem above (n k : Nat) (h : (limbs n).length ≤ k) : n / 4294967296 ^ k = 0 := by
  refine Nat.div_eq_of_lt ?_
  have := val_lt (limbs_ok n)
  rw [val_limbs] at this
  exact Nat.lt_of_lt_of_le this (Nat.pow_le_pow_right (by omega) h)

def cmpI (a b : Nat) : Int := if a < b then -1 else if a = b then 0 else 1

theorem t_cmp (a b : Nat) : PCall Tryd.prog 80 [encNat a, encNat b] (· = .int .i64 (cmpI a b)) := by
  refine PCall.lens fun hlen => ?_
  have hla : (limbs a).length ≤ 9223372036854775807 := by
    have := hlen (encNat a) (by simp) none 1 (enc (limbs a)) [] (by simp)
    simpa using this
  have hlb : (limbs b).length ≤ 9223372036854775807 := by
    have := hlen (encNat b) (by simp) none 1 (enc (limbs b)) [] (by simp)
    simpa using this
  refine pcall_vc c_cmp (by simp [c_cmp]) fun x K hK => ?_
  simp [c_cmp, encNat]
  refine vc_loop .wide (fun k : Nat => ⟨34, [(5, .p (.int .i64 ((k : Int) - 1))), (2, .ptr 2 1 0 0), (3, .ptr 3 1 0 0)], [(2, ⟨false, 1, .p [[.sl none 1 (enc (limbs a)) []]]⟩), (3, ⟨false, 1, .p [[.sl none 1 (enc (limbs b)) []]]⟩)]⟩)
    (fun k => k ≤ 9223372036854775807 ∧ a / 4294967296 ^ k = b / 4294967296 ^ k) (fun k => k) (max (limbs a).length (limbs b).length) ⟨by omega, by rw [above a _ (by omega), above b _ (by omega)]⟩ ?_ ?_
  · refine sub_iff ?_
    have hw : IntKind.i64.wrap (max ((limbs a).length : Int) ((limbs b).length : Int) - 1) = ((max (limbs a).length (limbs b).length : Nat) : Int) - 1 := by
      rw [wrap_i64 (by omega)]; omega
    simp [hw]
  · rintro k ⟨hk, h1⟩ Q g1 g2
    by_cases h0 : k = 0
    · subst h0
      simp
      refine g2 _ _ (by simp) ?_
      simp at h1
      simp
      exact hK _ (by simp [cmpI, h1])
    · obtain ⟨m, rfl⟩ : ∃ m, k = m + 1 := ⟨k - 1, by omega⟩
      have hw : IntKind.i64.wrap ((m : Int) - 1) = (m : Int) - 1 := wrap_i64 (by omega)
      simp
      refine vc_draw .wide rfl ?_
      simp
      refine dcall_pz [encNat a, .int .i64 (m : Int)] _ (t_at a m) (by simp; rfl) (by simp [encNat]) ?_
      simp
      refine dcall_pz [encNat b, .int .i64 (m : Int)] _ (t_at b m) (by simp; rfl) (by simp [encNat]) ?_
      have ea := digit_step a m
      have eb := digit_step b m
      rw [← digit_eq, h1] at ea
      rw [← digit_eq] at eb
      have lt_of : ∀ u v : Nat, u / 4294967296 ^ m < v / 4294967296 ^ m → u < v := fun u v h => Nat.lt_of_not_le fun h' => by
        have := Nat.div_le_div_right (c := 4294967296 ^ m) h'
        omega
      simp [hw]
      refine ⟨fun h => g2 _ _ (by simp) ?_, fun h => ⟨fun h' => g2 _ _ (by simp) ?_, fun h' => g1 _ m ⟨by omega, by omega⟩ (by omega) (sub_iff (by simp))⟩⟩
      · simp
        exact hK _ (by simp [cmpI, lt_of a b (by omega)])
      · simp
        have := lt_of b a (by omega)
        exact hK _ (by simp [cmpI, show ¬ a < b by omega, show ¬ a = b by omega])
end Go.Dl
set_option linter.unusedVariables false
set_option linter.unusedSimpArgs false
set_option maxRecDepth 1000000
namespace Go.Dl
open Go.Proofs

theorem OkL.app {a b : List Nat} (ha : OkL a) (hb : OkL b) : OkL (a ++ b) := fun d hd => by
  rcases List.mem_append.1 hd with h | h
  · exact ha d h
  · exact hb d h
theorem OkL.one {d : Nat} (h : d < 4294967296) : OkL [d] := fun e he => by simp at he; omega

theorem more_law (A p V c d b e : Nat) (h : V + p * c = A * b + e) (X : Nat) (hX : X = c + d * b) : V + p * (X % 4294967296) + p * 4294967296 * (X / 4294967296) = (A + p * d) * b + e := by
  have h1 := Nat.mod_add_div X 4294967296
  have h2 : p * (X % 4294967296) + p * 4294967296 * (X / 4294967296) = p * X := by
    rw [Nat.mul_assoc, ← Nat.mul_add, h1]
  have h3 : p * X = p * c + p * d * b := by rw [hX, Nat.mul_add, Nat.mul_assoc]
  rw [Nat.add_assoc, h2, h3, Nat.add_mul]
  omega

theorem set_at (a l : List Nat) (v : Nat) (h : a.length < l.length) : (a ++ l.drop a.length).set a.length v = (a ++ [v]) ++ l.drop (a.length + 1) := by
  rw [List.set_append_right _ _ (Nat.le_refl _), Nat.sub_self, List.drop_eq_getElem_cons h, List.set_cons_zero, List.append_assoc]
  rfl

theorem t_more (l : List Nat) (room b e : Nat) (hb : b < 4294967296) (he : e < 4294967296) (hl : OkL l) (hlen : l.length ≤ 1000000) :
    MCall Tryd.prog 65 [.own 1000 1 0 l.length room, .p (.int .u32 (U b)), .p (.int .u32 (U e))] [(1000, ⟨false, 1, .p (enc l)⟩)]
      (fun r H => ∃ k room' q, r = .own k 1 0 q.length room' ∧ lk H k = some ⟨false, 1, .p (enc q)⟩ ∧ OkL q ∧ q.length ≤ l.length + 1 ∧ l.length ≤ q.length ∧ val q = val l * b + e) := by
  refine mcall_vc c_more (by simp [c_more]) (by simp [c_more]) fun x K hK => ?_
  have he64 : e % 18446744073709551616 = e := Nat.mod_eq_of_lt (by omega)
  have hb64 : b % 18446744073709551616 = b := Nat.mod_eq_of_lt (by omega)
  simp [c_more]
  refine vc_loop .wide (fun y : List Nat × Nat => ⟨43, [(13, .p (.int .i64 (y.1.length : Int))), (12, .p (.int .i64 (l.length : Int))), (7, .p (.int .u64 (U y.2))), (0, .own 1000 1 0 l.length room), (1, .p (.int .u32 (U b)))],
      [(1000, ⟨false, 1, .p (enc (y.1 ++ l.drop y.1.length))⟩)]⟩)
    (fun y => y.1.length ≤ l.length ∧ OkL y.1 ∧ y.2 < 4294967296 ∧ val y.1 + 4294967296 ^ y.1.length * y.2 = val (l.take y.1.length) * b + e) (fun y => l.length - y.1.length) ([], e) ⟨by simp, by simp [OkL], he, by simp [val]⟩ ?_ ?_
  · refine sub_iff ?_
    simp [he64]
  · rintro ⟨q, c⟩ ⟨h1, h2, h3, h4⟩ Q g1 g2
    simp only at h1 h2 h3 h4
    by_cases h0 : q.length = l.length
    · simp [h0]
      refine g2 _ _ (by simp) ?_
      rw [h0, List.take_length] at h4
      by_cases hc : c = 0
      · subst hc
        simp [List.drop_length]
        refine hK _ _ ⟨1000, room, q, by rw [h0], by simp, h2, by omega, by omega, by simpa using h4⟩
      · have hc32 : c % 4294967296 = c := Nat.mod_eq_of_lt h3
        simp [List.drop_length, show 0 < c by omega, hc, hc32, maxLen_eq, h0, show (l.length + 1) * 4 ≤ 140737488355328 by omega, show l.length + 1 ≤ 9223372036854775807 by omega]
        refine hK _ _ ⟨41, l.length + 1, q ++ [c], by simp [h0], by simp [enc, h0, List.take_of_length_le], h2.app (OkL.one h3), by simp [h0], by simp [h0], ?_⟩
        rw [val_append, h0, ← h4]
        simp [val]
    · have hlt : q.length < l.length := by omega
      have hd : l[q.length] < 4294967296 := hl _ (List.getElem_mem hlt)
      obtain ⟨X, hX⟩ : ∃ X, X = c + l[q.length] * b := ⟨_, rfl⟩
      have hXl : X < 18446744073709551616 := by
        have : l[q.length] * b ≤ 4294967295 * 4294967295 := Nat.mul_le_mul (by omega) (by omega)
        omega
      have hd64 : l[q.length] % 18446744073709551616 = l[q.length] := Nat.mod_eq_of_lt (by omega)
      have hm64 : l[q.length] * b % 18446744073709551616 = l[q.length] * b := Nat.mod_eq_of_lt (by omega)
      have hX64 : (c + l[q.length] * b) % 18446744073709551616 = X := by rw [← hX]; exact Nat.mod_eq_of_lt hXl
      have hw : IntKind.i64.wrap ((q.length : Int) + 1) = (q.length : Int) + 1 := wrap_i64 (by omega)
      obtain ⟨cur, hcur⟩ : ∃ u, u = q ++ l.drop q.length := ⟨_, rfl⟩
      have hg : cur[q.length]? = some l[q.length] := by
        rw [hcur, List.getElem?_append_right (Nat.le_refl _), Nat.sub_self]; simp [hlt]
      have hset : cur.set q.length (X % 4294967296) = (q ++ [X % 4294967296]) ++ l.drop (q.length + 1) := by rw [hcur, set_at q l _ hlt]
      simp only [← hcur]
      simp [hlt, hg, hb64, hd64, hm64, hX64, hw, hset]
      refine g1 _ (q ++ [X % 4294967296], X / 4294967296) ⟨by simp; omega, h2.app (OkL.one (by omega)), by simp only; omega, ?_⟩ (by simp; omega) (sub_iff (by simp))
      simp only [List.length_append, List.length_cons, List.length_nil]
      rw [val_append, ← List.take_append_getElem hlt, val_append, List.length_take, Nat.min_eq_left (by omega)]
      have := more_law _ _ _ _ l[q.length] b e h4 X hX
      simpa [val, Nat.pow_succ, Nat.add_assoc] using this
end Go.Dl
set_option linter.unusedVariables false
set_option linter.unusedSimpArgs false
set_option maxRecDepth 1000000
namespace Go.Dl
open Go.Proofs

def isDig (b : UInt8) : Bool := 48 ≤ b.toNat && b.toNat ≤ 57
def isNum (s : List UInt8) : Bool := s.all isDig && (s == [48] || match s with | [] => false | b :: _ => b.toNat != 48)

theorem PCall.slens {P : Program} {f : FuncId} {args : List PV} {R : PV → Prop} (h : PCall P f args R) : PCall P f args R := h

theorem t_number (s : List UInt8) (hlen : s.length ≤ 9223372036854775807) : PCall Tryd.prog 64 [.str s] (· = .bool (isNum s)) := by
  refine pcall_vc c_number (by simp [c_number]) fun x K hK => ?_
  simp [c_number]
  refine vc_loop .wide (fun i : Nat => ⟨31, [(6, .p (.int .i64 (i : Int))), (5, .p (.int .i64 (s.length : Int))), (0, .p (.str s))], []⟩)
    (fun i => i ≤ s.length ∧ (s.take i).all isDig = true) (fun i => s.length - i) 0 ⟨by omega, by simp⟩ ?_ ?_
  · exact sub_iff (by simp)
  · rintro i ⟨h1, h2⟩ Q g1 g2
    by_cases h0 : i = s.length
    · subst h0
      rw [List.take_length] at h2
      simp
      refine g2 _ _ (by simp) ?_
      cases s with
      | nil =>
        simp
        exact hK (.bool false) (by simp [isNum])
      | cons b r =>
        have hu : (b = OfNat.ofNat 48) ↔ b.toNat = 48 := by
          constructor
          · intro h; rw [h]; rfl
          · intro h; exact UInt8.toNat_inj.1 h
        by_cases hb : b.toNat = 48
        · by_cases hr : r = []
          · simp [hu, hb, hr]
            have hb48 : b = 48 := UInt8.toNat_inj.1 (by rw [hb]; rfl)
            exact hK (.bool true) (by simp at h2; simp [isNum, hr, h2, hb48]; decide)
          · simp [hu, hb, hr]
            exact hK (.bool false) (by simp at h2; simp [isNum, hr, h2, hb])
        · simp [hu, hb]
          have e : ((b.toNat : Int) != 48) = true := by simp; omega
          rw [e]
          exact hK (.bool true) (by simp only [List.all_cons] at h2; simp [isNum, h2, hb])
    · have hlt : i < s.length := by omega
      have hw : IntKind.i64.wrap ((i : Int) + 1) = (i : Int) + 1 := wrap_i64 (by omega)
      by_cases hd : isDig s[i] = true
      · have hd' := hd
        simp only [isDig, Bool.and_eq_true, decide_eq_true_eq] at hd'
        simp [hlt, hw, show ¬ ((s[i].toNat : Int) < 48) by omega, show ¬ ((57 : Int) < s[i].toNat) by omega, show (48 : Int) ≤ s[i].toNat by omega, show ((s[i].toNat : Int) ≤ 57) by omega]
        refine g1 _ (i + 1) ⟨by omega, ?_⟩ (by omega) (sub_iff (by simp))
        rw [← List.take_append_getElem hlt, List.all_append, h2]
        simp [hd]
      · have hs : isNum s = false := by
          have : s.all isDig = false := by
            rw [List.all_eq_false]
            exact ⟨s[i], List.getElem_mem hlt, hd⟩
          simp [isNum, this]
        have hd' := hd
        simp only [isDig, Bool.and_eq_true, decide_eq_true_eq, not_and, Nat.not_le] at hd'
        by_cases h48 : s[i].toNat < 48
        · simp [hlt, hw, show ((s[i].toNat : Int) < 48) by omega, show ¬ ((48 : Int) ≤ s[i].toNat) by omega]
          refine g2 _ _ (by simp) ?_
          simp
          exact hK _ (by simp [hs])
        · simp [hlt, hw, show ¬ ((s[i].toNat : Int) < 48) by omega, show ((57 : Int) < s[i].toNat) by omega, show (48 : Int) ≤ s[i].toNat by omega]
          refine g2 _ _ (by simp) ?_
          simp
          exact hK _ (by simp [hs])
end Go.Dl
set_option linter.unusedVariables false
set_option linter.unusedSimpArgs false
set_option maxRecDepth 1000000
namespace Go.Dl
open Go.Proofs

def decval (s : List UInt8) : Nat := s.foldl (fun a b => a * 10 + (b.toNat - 48)) 0
theorem decval_app (s : List UInt8) (b : UInt8) : decval (s ++ [b]) = decval s * 10 + (b.toNat - 48) := by simp [decval]

/-- nat.Parse -/
def parseN (s : List UInt8) : PV := if isNum s then if s.length ≤ 1200 then .tup [encNat (decval s), .int .i64 0] else .tup [encNat 0, .int .i64 2] else .tup [encNat 0, .int .i64 3]

/-- a call that hands on a pure value as it is -/
theorem oks_callp {F : Fence} {P : Program} {nt : Nat} {x : Fx} {st : St} (hF : Free F) {R : St → Prop} {ops : List DOper} {d : Nat} {f : FuncId} {l : List DOpd} {g : Option (Nat × Bool)} {ps : List PV} {Rc : DV → List (Nat × Ob) → Prop}
    (hg : gOk st g) (hp : pures (l.map st.ev) = some ps) (hc : MCall P f (ps.map .p) [] Rc)
    (h : ∀ r H, Rc r H → ∃ p, r = .p p ∧ OkOps F P nt x ops R (st.set d (.p p))) : OkOps F P nt x (⟨some d, .call f l, g⟩ :: ops) R st := by
  refine oks_call_gen hF hg fun hd κ a w hs vs hrel hl => ?_
  obtain ⟨p1, p2⟩ := pures_rel hp hrel
  let x' : Fx := ⟨x.S st κ, fun _ => False, w, [], fun _ => none⟩
  have hx' : ∀ κ' b, x'.S ⟨0, [], []⟩ κ' b → x.S st κ b := by
    rintro κ' b (h | ⟨k, ob, hk, _⟩)
    · exact h
    · simp [lk] at hk
  refine (hc x' κ w vs rfl (fun k b hk => by cases hk) ⟨rfl, rfl, fun i d hd => by simp [lk] at hd, fun k ob hk => by simp [lk] at hk, fun k k' ob ob' hk => by simp [lk] at hk, fun k ob hk => by simp [lk] at hk,
    Fr.refl _ _, hs.Slt, fun k b hk => by cases hk⟩ (by simp at p1 hl ⊢; omega) (fun i c v hc hv => ?_)).mono ?_
  · simp only [List.getElem?_map, Option.map_eq_some_iff] at hc
    obtain ⟨q, hq, rfl⟩ := hc
    exact .p _ _ ((p2 i q v hq hv).mono (Keep.refl _ _) (fun b _ h => hx' κ b h))
  · rintro e w' ⟨v, r, H, κ', rfl, hr, hs', hv⟩
    obtain ⟨p, rfl, hok⟩ := h r H hr
    cases hv with | p _ _ hv =>
    exact ⟨v, _, κ, rfl, (hs.world hs'.fr).set d hd (.p p) v (.p _ _ (hv.mono (Keep.refl _ _) (fun b _ h => .inl h))), rfl, hok⟩

theorem t_more_nil0 : MCall Tryd.prog 65 [.p (.sl (some true) 0 [] []), .p (.int .u32 10), .p (.int .u32 (U 0))] [] (fun r H => r = .p (.sl (some true) 0 [] [])) := by
  refine mcall_vc c_more (by simp [c_more]) (by simp [c_more]) fun x K hK => ?_
  simp [c_more]
  refine vc_loop .wide (fun _ : Unit => ⟨43, [(13, .p (.int .i64 0)), (12, .p (.int .i64 0)), (7, .p (.int .u64 (U 0))), (0, .p (.sl (some true) 0 [] []))], []⟩) (fun _ => True) (fun _ => 0) () trivial (sub_iff (by simp [show IntKind.u64.wrap 0 = 0 by decide])) ?_
  rintro _ _ Q g1 g2
  simp
  refine g2 _ _ (by simp) ?_
  simp
  exact hK _ _ rfl
theorem t_more_nil (e : Nat) (h0 : 0 < e) (he : e < 4294967296) : MCall Tryd.prog 65 [.p (.sl (some true) 0 [] []), .p (.int .u32 10), .p (.int .u32 (U e))] []
    (fun r H => ∃ k room', r = .own k 1 0 1 room' ∧ lk H k = some ⟨false, 1, .p (enc [e])⟩) := by
  refine mcall_vc c_more (by simp [c_more]) (by simp [c_more]) fun x K hK => ?_
  have he64 : e % 18446744073709551616 = e := Nat.mod_eq_of_lt (by omega)
  have he32 : e % 4294967296 = e := Nat.mod_eq_of_lt he
  simp [c_more]
  refine vc_loop .wide (fun _ : Unit => ⟨43, [(13, .p (.int .i64 0)), (12, .p (.int .i64 0)), (7, .p (.int .u64 (U e))), (0, .p (.sl (some true) 0 [] []))], []⟩) (fun _ => True) (fun _ => 0) () trivial (sub_iff (by simp [he64])) ?_
  rintro _ _ Q g1 g2
  simp
  refine g2 _ _ (by simp) ?_
  simp [h0, he32, show ¬ e = 0 by omega, maxLen_eq]
  exact hK _ _ ⟨41, 1, by simp, by simp [enc]⟩
end Go.Dl
set_option linter.unusedVariables false
set_option linter.unusedSimpArgs false
set_option maxRecDepth 1000000
namespace Go.Dl
open Go.Proofs

def parseI (s : List UInt8) : Nat × List Nat × Nat → St
  | (i, [], _) => ⟨31, [(18, .p (.int .i64 (i : Int))), (17, .p (.int .i64 (s.length : Int))), (0, .p (.str s)), (2, .ptr 2 1 0 0), (4, .p (.sl (some true) 0 [] []))], [(2, ⟨false, 1, .p [[.sl (some true) 0 [] []]]⟩)]⟩
  | (i, d :: q, room) => ⟨31, [(18, .p (.int .i64 (i : Int))), (17, .p (.int .i64 (s.length : Int))), (0, .p (.str s)), (2, .ptr 2 1 0 0), (4, .own 27 1 0 (d :: q).length room)], [(2, ⟨false, 1, .p [[.sl (some true) 0 [] []]]⟩), (27, ⟨false, 1, .p (enc (d :: q))⟩)]⟩

theorem t_parseN (s : List UInt8) (hlen : s.length ≤ 9223372036854775807) : PCall Tryd.prog 42 [.str s] (· = parseN s) := by
  refine pcall_vcz c_natparse (by simp [c_natparse]) fun x K hK => ?_
  simp [c_natparse]
  refine oks_callz [] .wide [.str s] (t_number s hlen) (by simp) (by simp; rfl) (by simp) ?_
  rintro _ rfl
  refine oks_vc .wide ?_
  by_cases hn : isNum s = true
  · by_cases hl : s.length ≤ 1200
    · simp [hn, show ¬ (1200 : Int) < s.length by omega]
      have hdig : ∀ b, b ∈ s → isDig b = true := by
        simp only [isNum, Bool.and_eq_true, List.all_eq_true] at hn
        exact hn.1
      refine vc_loop .wide (parseI s) (fun y => y.1 ≤ s.length ∧ OkL y.2.1 ∧ y.2.1.length ≤ y.1 ∧ val y.2.1 = decval (s.take y.1)) (fun y => s.length - y.1) (0, [], 0) ⟨by simp, by simp [OkL], by simp, by simp [val, decval]⟩ ?_ ?_
      · exact sub_iff (by simp)
      · rintro ⟨i, q, room⟩ ⟨h1, h2, h3, h4⟩ Q g1 g2
        simp only at h1 h2 h3 h4
        by_cases h0 : i = s.length
        · subst h0
          rw [List.take_length] at h4
          have fin : K (.tup [encNat (val q), .int .i64 0]) := hK _ _ rfl (by simp [parseN, hn, hl, h4, encNat])
          cases q with
          | nil =>
            simp [parseI]
            refine g2 _ _ (by simp) ?_
            simp
            refine oks_callz [] .wide [.sl none 1 (enc []) []] (t_trim none [] [] h2) (by simp) (by simp; rfl) (by simp) ?_
            rintro _ rfl
            refine oks_vc .wide ?_
            simp [encNat]
            simpa [encNat] using fin
          | cons d q =>
            simp [parseI]
            refine g2 _ _ (by simp) ?_
            simp
            refine oks_callz [27] .wide [.sl none 1 (enc (d :: q)) []] (t_trim none (d :: q) [] h2) (by simp) (by simp; rfl) (by simp [List.take_of_length_le]) ?_
            rintro _ rfl
            refine oks_vc .wide ?_
            simp [encNat]
            simpa [encNat] using fin
        · have hlt : i < s.length := by omega
          have hw : IntKind.i64.wrap ((i : Int) + 1) = (i : Int) + 1 := wrap_i64 (by omega)
          have hb := hdig s[i] (List.getElem_mem hlt)
          simp only [isDig, Bool.and_eq_true, decide_eq_true_eq] at hb
          have hdg : IntKind.u32.wrap (IntKind.u8.wrap ((s[i].toNat : Int) - 48)) = U (s[i].toNat - 48) := by
            rw [wrap_u8', wrap_u32']; unfold U; omega
          cases q with
          | nil =>
            simp [parseI, hlt, hdg]
            by_cases e0 : s[i].toNat - 48 = 0
            · rw [e0]
              refine oks_callp .wide (ps := [.sl (some true) 0 [] [], .int .u32 10, .int .u32 (U 0)]) (by simp) (by simp) t_more_nil0 ?_
              rintro _ H rfl
              refine ⟨_, rfl, oks_vc .wide ?_⟩
              simp [hw]
              refine g1 _ (i + 1, [], 0) ⟨by omega, h2, by simp, ?_⟩ (by simp; omega) (sub_iff (by simp))
              simp only
              rw [← List.take_append_getElem hlt, decval_app, ← h4, e0]; simp [val]
            · refine oks_calln .wide (ps := [.sl (some true) 0 [] [], .int .u32 10, .int .u32 (U (s[i].toNat - 48))]) (by simp) (by simp) (t_more_nil (s[i].toNat - 48) (by omega) (by omega)) ?_
              rintro _ H ⟨k, room', rfl, hH⟩
              refine ⟨k, 1, 0, 1, room', _, rfl, hH, oks_vc .wide ?_⟩
              simp [hw]
              refine g1 _ (i + 1, [s[i].toNat - 48], room') ⟨by omega, OkL.one (by omega), by simp, ?_⟩ (by simp; omega) (sub_iff (by simp))
              simp only
              rw [← List.take_append_getElem hlt, decval_app, ← h4]; simp [val]
          | cons d q =>
            simp [parseI, hlt, hdg]
            refine oks_callm .wide 27 (by simp) (by simp; exact ⟨rfl, rfl⟩) (by simpa [show U 10 = 10 from rfl] using t_more (d :: q) room 10 (s[i].toNat - 48) (by omega) (by omega) h2 (by omega)) ?_
            rintro _ H ⟨k, room', q', rfl, hH, k1, k2, k3, k4⟩
            refine ⟨k, 1, 0, q'.length, room', _, rfl, hH, oks_vc .wide ?_⟩
            obtain ⟨d', q'', rfl⟩ : ∃ d' q'', q' = d' :: q'' := by
              cases q' with
              | nil => simp at k3
              | cons d' q'' => exact ⟨d', q'', rfl⟩
            simp [hw]
            refine g1 _ (i + 1, d' :: q'', room') ⟨by omega, k1, by simp at k2 h3 ⊢; omega, ?_⟩ (by simp; omega) (sub_iff (by simp))
            simp only
            rw [← List.take_append_getElem hlt, decval_app, ← h4, k4]
    · simp [hn, show (1200 : Int) < s.length by omega]
      exact hK _ _ rfl (by simp [parseN, hn, hl, encNat, limbs_zero])
  · simp [hn]
    exact hK _ _ rfl (by simp [parseN, hn, encNat, limbs_zero])
end Go.Dl
set_option linter.unusedVariables false
set_option linter.unusedSimpArgs false
set_option maxRecDepth 1000000
namespace Go.Dl
open Go.Proofs

theorem t_trimM (l t : List Nat) (room : Nat) (hroom : l.length ≤ room) (hl : OkL l) (hlen : l.length ≤ 1000000) : MCall Tryd.prog 66 [.own 1000 1 0 l.length room] [(1000, ⟨false, 1, .p (enc (l ++ t))⟩)]
    (fun r H => ∃ n, n ≤ l.length ∧ l.take n = limbs (val l) ∧ r = .agg [.own 1000 1 0 n n] ∧ lk H 1000 = some ⟨false, 1, .p (enc (l ++ t))⟩) := by
  refine mcall_vc c_trim (by simp [c_trim]) (by simp [c_trim]) fun x K hK => ?_
  simp [c_trim]
  refine vc_loop .wide (fun n : Nat => ⟨23, [(3, .p (.int .i64 n)), (0, .own 1000 1 0 l.length room), (2, .ptr 2 1 0 0)], [(2, ⟨false, 1, .p [[.sl (some true) 0 [] []]]⟩), (1000, ⟨false, 1, .p (enc (l ++ t))⟩)]⟩)
    (fun n => n ≤ l.length ∧ ∀ k, n ≤ k → k < l.length → l[k]? = some 0) id l.length ⟨Nat.le_refl _, by omega⟩ ?_ ?_
  · refine sub_iff ?_
    simp
  · intro n hn Q h1 h2
    have fin : ∀ H, (∀ k, n = k + 1 → l[k]? ≠ some 0) → lk H 1000 = some ⟨false, 1, .p (enc (l ++ t))⟩ → K (.agg [.own 1000 1 0 n n]) H := fun H h0 hH => hK _ _ ⟨n, hn.1, take_limbs hl n hn.1 hn.2 h0, rfl, hH⟩
    by_cases h0 : n = 0
    · subst h0
      simp
      refine h2 _ _ (by simp) ?_
      simp
      exact fin _ (by omega) (by simp)
    · obtain ⟨m, rfl⟩ : ∃ m, n = m + 1 := ⟨n - 1, by omega⟩
      have hw : IntKind.i64.wrap (m : Int) = m := wrap_i64 (by omega)
      have hlt : m < l.length := by omega
      have hg : (l ++ t)[m]? = some l[m] := by rw [List.getElem?_append_left hlt, List.getElem?_eq_getElem hlt]
      by_cases hz : l[m] = 0
      · simp [hw, hlt, hz, hg]
        refine h1 _ m ⟨by omega, fun k hk hk' => ?_⟩ (by simp) (sub_iff (by simp))
        by_cases e : k = m
        · subst e; simp [hlt, hz]
        · exact hn.2 k (by omega) hk'
      · simp [hw, hlt, hz, hg]
        refine h2 _ _ (by simp) ?_
        simp [hn.1, show (0:Int) ≤ (m:Int) + 1 by omega, show m + 1 ≤ room by omega]
        exact fin _ (fun k hk => by
          have : k = m := by omega
          subst this
          simp [hlt, hz]) (by simp)
end Go.Dl
set_option linter.unusedVariables false
set_option linter.unusedSimpArgs false
set_option maxRecDepth 1000000
namespace Go.Dl
open Go.Proofs

def encB (l : List Nat) : List (List PV) := l.map fun (d : Nat) => [.int .u8 (U d)]
@[simp] theorem encB_len (l : List Nat) : (encB l).length = l.length := by simp [encB]
@[simp] theorem encB_nil : encB [] = [] := rfl
theorem encB_app (a b : List Nat) : encB (a ++ b) = encB a ++ encB b := by simp [encB]
@[simp] theorem encB_get (l : List Nat) (i : Nat) : (encB l)[i]? = (l[i]?).map fun (n : Nat) => [PV.int .u8 (U n)] := by simp [encB]
@[simp] theorem encB_getElem (l : List Nat) (i : Nat) (h : i < (encB l).length) : (encB l)[i] = [PV.int .u8 (U (l[i]'(by simpa using h)))] := by simp [encB]
@[simp] theorem encB_set (a : List Nat) (i v : Nat) : (encB a).set i [.int .u8 (U v)] = encB (a.set i v) := by simp [encB]

def RevAt (l cur : List Nat) (i : Nat) : Prop := cur.length = l.length ∧ ∀ k, k < l.length → cur[k]? = if k < i ∨ l.length - i ≤ k then l[l.length - 1 - k]? else l[k]?
theorem RevAt.done {l cur : List Nat} {i : Nat} (h : RevAt l cur i) (hi : l.length ≤ 2 * i + 1) : cur = l.reverse := by
  refine List.ext_getElem? fun k => ?_
  by_cases hk : k < l.length
  · rw [h.2 k hk, List.getElem?_reverse hk]
    split
    · rfl
    · rename_i hn
      rw [show l.length - 1 - k = k by omega]
  · rw [List.getElem?_eq_none (by rw [h.1]; omega), List.getElem?_eq_none (by simp; omega)]
theorem RevAt.step {l cur : List Nat} {i a b : Nat} (h : RevAt l cur i) (hi : 2 * i + 1 < l.length) (ha : cur[i]? = some a) (hb : cur[l.length - 1 - i]? = some b) : RevAt l ((cur.set i b).set (l.length - 1 - i) a) (i + 1) := by
  refine ⟨by simp [h.1], fun k hk => ?_⟩
  have e1 := h.2 i (by omega)
  have e2 := h.2 (l.length - 1 - i) (by omega)
  rw [if_neg (by omega)] at e1 e2
  rw [ha] at e1
  rw [hb] at e2
  rw [List.getElem?_set, List.getElem?_set]
  by_cases k1 : l.length - 1 - i = k
  · rw [if_pos k1, if_pos (by simp [h.1]; omega), if_pos (by omega), show l.length - 1 - k = i by omega, ← e1]
  · rw [if_neg k1]
    by_cases k2 : i = k
    · rw [if_pos k2, if_pos (by simp [h.1]; omega), if_pos (by omega), ← k2, ← e2]
    · rw [if_neg k2, h.2 k hk]
      by_cases c : k < i ∨ l.length - i ≤ k
      · rw [if_pos c, if_pos (by omega)]
      · rw [if_neg c, if_neg (by omega)]

theorem t_reverse (l : List Nat) (room : Nat) (hlen : l.length ≤ 1000000) : MCall Tryd.prog 79 [.own 1000 1 0 l.length room] [(1000, ⟨false, 1, .p (encB l)⟩)]
    (fun r H => r = .p (.tup []) ∧ lk H 1000 = some ⟨false, 1, .p (encB l.reverse)⟩) := by
  refine mcall_vc c_reverse (by simp [c_reverse]) (by simp [c_reverse]) fun x K hK => ?_
  simp [c_reverse]
  refine vc_loop .wide (fun y : Nat × List Nat => ⟨28, [(2, .p (.int .i64 (y.1 : Int))), (3, .p (.int .i64 ((l.length : Int) - 1 - y.1))), (0, .own 1000 1 0 l.length room)], [(1000, ⟨false, 1, .p (encB y.2)⟩)]⟩)
    (fun y => RevAt l y.2 y.1 ∧ y.1 ≤ l.length) (fun y => l.length - y.1) (0, l) ⟨⟨rfl, fun k hk => by simp [show ¬ l.length ≤ k by omega]⟩, by simp⟩ ?_ ?_
  · have hw : IntKind.i64.wrap ((l.length : Int) - 1) = (l.length : Int) - 1 := wrap_i64 (by omega)
    exact sub_iff (by simp [hw])
  · rintro ⟨i, cur⟩ ⟨h1, h3⟩ Q g1 g2
    simp only at h1 h3
    by_cases hi : 2 * i + 1 < l.length
    · obtain ⟨j, hj⟩ : ∃ j : Nat, j = l.length - 1 - i := ⟨_, rfl⟩
      have hji : (l.length : Int) - 1 - (i : Int) = (j : Int) := by omega
      obtain ⟨a, ha⟩ : ∃ a, cur[i]? = some a := ⟨cur[i]'(by rw [h1.1]; omega), List.getElem?_eq_getElem _⟩
      obtain ⟨b, hb⟩ : ∃ b, cur[j]? = some b := ⟨cur[j]'(by rw [h1.1]; omega), List.getElem?_eq_getElem _⟩
      have hw : IntKind.i64.wrap ((i : Int) + 1) = (i : Int) + 1 := wrap_i64 (by omega)
      have hw' : IntKind.i64.wrap ((j : Int) - 1) = (j : Int) - 1 := wrap_i64 (by omega)
      have hset : (cur.set i b)[j]? = some b := by rw [List.getElem?_set, if_neg (by omega)]; exact hb
      have hst := h1.step hi ha (by rw [← hj]; exact hb)
      rw [← hj] at hst
      simp [hji, show i < j by omega]
      refine vc_drawS .wide [(13, 1000), (15, 1000)] rfl ?_
      simp [show i < l.length by omega, show j < l.length by omega, ha, hb, hset]
      refine g1 _ (i + 1, (cur.set i b).set j a) ⟨hst, by omega⟩ (by simp; omega) (sub_iff (by simp [hw, hw']; omega))
    · simp [show ¬ ((i : Int) < (l.length : Int) - 1 - i) by omega]
      refine g2 _ _ (by simp) ?_
      simp
      refine hK _ _ ⟨rfl, ?_⟩
      simp [h1.done (by omega)]
end Go.Dl
set_option linter.unusedVariables false
set_option linter.unusedSimpArgs false
set_option maxRecDepth 1000000
namespace Go.Proofs
set_option maxHeartbeats 1000000 in
theorem walk_indexByte (s : ByteArray) (c : Int) (w : World) :
    Calls Tryd.prog 102 #[.string s, .int .u8 c] w fun e w' => e = .returned (.int .i64 (Lib.indexByte s.data.toList c.toNat.toUInt8)) ∧ w' = w := by
  go_enter Tryd.func102, Tryd.ntmps102
  go_wp2
  rw [run_callFunc_extern Tryd.func114 (by kernel_rfl) (by kernel_rfl) (by kernel_rfl) (e := Extern.BytealgIndexByte.indexByte) (by kernel_rfl), Lib.run_indexByteString]
  simp only [Result.andThen]
  rw [Oper.upon_value]
  go_wp2
  go_ret
  exact ⟨rfl, rfl⟩
end Go.Proofs
namespace Go.Dl
open Go.Proofs

noncomputable def c_index : { d : DFn // compF Tryd.prog 89 = some d } := by
  refine ⟨?_, ?_⟩
  rotate_left
  · conv => lhs; reduce
noncomputable def c_scut : { d : DFn // compF Tryd.prog 63 = some d } := by
  refine ⟨?_, ?_⟩
  rotate_left
  · conv => lhs; reduce
noncomputable def c_cut : { d : DFn // compF Tryd.prog 41 = some d } := by
  refine ⟨?_, ?_⟩
  rotate_left
  · conv => lhs; reduce
noncomputable def c_scutp : { d : DFn // compF Tryd.prog 62 = some d } := by
  refine ⟨?_, ?_⟩
  rotate_left
  · conv => lhs; reduce
noncomputable def c_cutp : { d : DFn // compF Tryd.prog 40 = some d } := by
  refine ⟨?_, ?_⟩
  rotate_left
  · conv => lhs; reduce
noncomputable def c_hasp : { d : DFn // compF Tryd.prog 88 = some d } := by
  refine ⟨?_, ?_⟩
  rotate_left
  · conv => lhs; reduce
noncomputable def c_tlb : { d : DFn // compF Tryd.prog 94 = some d } := by
  refine ⟨?_, ?_⟩
  rotate_left
  · conv => lhs; reduce
noncomputable def c_tl : { d : DFn // compF Tryd.prog 71 = some d } := by
  refine ⟨?_, ?_⟩
  rotate_left
  · conv => lhs; reduce

/-- the first place of a byte -/
def cutC (c : UInt8) : List UInt8 → List UInt8 × List UInt8 × Bool
  | [] => ([], [], false)
  | x :: r => if x = c then ([], r, true) else (x :: (cutC c r).1, (cutC c r).2.1, (cutC c r).2.2)

theorem indexByte_cut (c : UInt8) : ∀ s : List UInt8, (Lib.indexByte s c = if (cutC c s).2.2 then ((cutC c s).1.length : Int) else -1) ∧
    ((cutC c s).2.2 = true → s = (cutC c s).1 ++ c :: (cutC c s).2.1) ∧ ((cutC c s).2.2 = false → (cutC c s).1 = s ∧ (cutC c s).2.1 = [])
  | [] => by simp [Lib.indexByte, cutC]
  | x :: r => by
    obtain ⟨h1, h2, h3⟩ := indexByte_cut c r
    by_cases e : x = c
    · subst e; simp [Lib.indexByte, cutC]
    · simp only [Lib.indexByte, cutC, beq_iff_eq, e, if_false, h1]
      cases hb : (cutC c r).2.2 with
      | true =>
        have := h2 hb
        simp [this.symm]
      | false =>
        have := h3 hb
        simp [this]

theorem t_ibyte (s : List UInt8) (c : Nat) (hc : c < 256) : PCall Tryd.prog 102 [.str s, .int .u8 (c : Int)] (· = .int .i64 (Lib.indexByte s (UInt8.ofNat c))) := by
  intro w S vs hS hl hrel
  match vs, hl with
  | [v1, v2], _ =>
    have h1 := hrel 0 _ v1 rfl rfl
    have h2 := hrel 1 _ v2 rfl rfl
    cases h1
    cases h2
    refine (walk_indexByte ⟨s.toArray⟩ c w).mono ?_
    rintro e w' ⟨rfl, rfl⟩
    refine ⟨_, _, rfl, rfl, Fr.refl _ _, ?_⟩
    have : ((c : Int).toNat).toUInt8 = UInt8.ofNat c := by simp
    simp only [this]
    exact .int _ _

theorem t_index1 (s : List UInt8) (c : UInt8) : PCall Tryd.prog 89 [.str s, .str [c]] (· = .int .i64 (Lib.indexByte s c)) := by
  refine pcall_vc c_index (by simp [c_index]) fun x K hK => ?_
  simp [c_index]
  refine ⟨fun h => hK _ (by subst h; simp [Lib.indexByte]), fun _ => ?_⟩
  refine oks_callz [] .wide [.str s, .int .u8 (c.toNat : Int)] (t_ibyte s c.toNat c.toNat_lt) (by simp) (by simp; rfl) (by simp) ?_
  rintro _ rfl
  refine oks_vc .wide ?_
  simp
  refine hK _ ?_
  simp

def cutP (c : UInt8) (s : List UInt8) : PV := .tup [.str (cutC c s).1, .str (cutC c s).2.1, .bool (cutC c s).2.2]
theorem t_scut (s : List UInt8) (c : UInt8) (hs : s.length ≤ 1000000) : PCall Tryd.prog 63 [.str s, .str [c]] (· = cutP c s) := by
  refine pcall_vc c_scut (by simp [c_scut]) fun x K hK => ?_
  simp [c_scut]
  refine oks_callz [] .wide [.str s, .str [c]] (t_index1 s c) (by simp) (by simp; rfl) (by simp) ?_
  rintro _ rfl
  refine oks_vc .wide ?_
  obtain ⟨h1, h2, h3⟩ := indexByte_cut c s
  cases hb : (cutC c s).2.2 with
  | true =>
    rw [hb, if_pos rfl] at h1
    have h2 := h2 hb
    have hlen : s.length = (cutC c s).1.length + 1 + (cutC c s).2.1.length := by
      conv => lhs; rw [h2]
      simp; omega
    have hw : IntKind.i64.wrap (((cutC c s).1.length : Int) + 1) = ((cutC c s).1.length : Int) + 1 := wrap_i64 (by omega)
    simp [h1, show (0 : Int) ≤ ((cutC c s).1.length : Int) by omega]
    refine vc_draw .wide rfl ?_
    have e1 : List.take (cutC c s).1.length s = (cutC c s).1 := by
      conv => lhs; arg 2; rw [h2]
      simp
    have e2 : List.drop ((cutC c s).1.length + 1) s = (cutC c s).2.1 := by
      conv => lhs; arg 2; rw [h2]
      simp
    simp [hw, show ((cutC c s).1.length : Nat) ≤ s.length by omega, show (0 : Int) ≤ ((cutC c s).1.length : Int) + 1 by omega, show (cutC c s).1.length + 1 ≤ s.length by omega, e1, e2]
    exact hK _ (by simp [cutP, hb]; rw [List.take_of_length_le (by omega)])
  | false =>
    rw [hb, if_neg (by simp)] at h1
    have h3 := h3 hb
    simp [h1]
    exact hK _ (by simp [cutP, hb, h3])
theorem t_cut (s : List UInt8) (c : UInt8) (hs : s.length ≤ 1000000) : PCall Tryd.prog 41 [.str s, .str [c]] (· = cutP c s) := by
  refine pcall_vc c_cut (by simp [c_cut]) fun x K hK => ?_
  simp [c_cut]
  refine oks_callz [] .wide [.str s, .str [c]] (t_scut s c hs) (by simp) (by simp; rfl) (by simp) ?_
  rintro _ rfl
  refine oks_vc .wide ?_
  simp [cutP]
  exact hK _ (by simp [cutP])

/-- a text's first byte off -/
def cutPre (c : UInt8) : List UInt8 → List UInt8 × Bool
  | [] => ([], false)
  | x :: r => if x = c then (r, true) else (x :: r, false)
def cutPreP (c : UInt8) (s : List UInt8) : PV := .tup [.str (cutPre c s).1, .bool (cutPre c s).2]
def hasPre (c : UInt8) : List UInt8 → Bool
  | [] => false
  | x :: _ => x = c
theorem t_hasp (s : List UInt8) (c : UInt8) (hs : s.length ≤ 1000000) : PCall Tryd.prog 88 [.str s, .str [c]] (· = .bool (hasPre c s)) := by
  refine pcall_vc c_hasp (by simp [c_hasp]) fun x K hK => ?_
  cases s with
  | nil =>
    simp [c_hasp]
    exact hK _ rfl
  | cons y r =>
    simp [c_hasp, show (1 : Int) ≤ (r.length : Int) + 1 by omega]
    exact hK _ (by simp [hasPre]; exact Bool.eq_iff_iff.2 (by simp))
theorem t_scutp (s : List UInt8) (c : UInt8) (hs : s.length ≤ 1000000) : PCall Tryd.prog 62 [.str s, .str [c]] (· = cutPreP c s) := by
  refine pcall_vc c_scutp (by simp [c_scutp]) fun x K hK => ?_
  simp [c_scutp]
  refine oks_callz [] .wide [.str s, .str [c]] (t_hasp s c hs) (by simp) (by simp; rfl) (by simp) ?_
  rintro _ rfl
  refine oks_vc .wide ?_
  cases s with
  | nil =>
    simp [hasPre]
    exact hK _ rfl
  | cons y r =>
    by_cases e : y = c
    · simp [hasPre, e]
      exact hK _ (by simp [cutPreP, cutPre, e])
    · simp [hasPre, e]
      exact hK _ (by simp [cutPreP, cutPre, e])
theorem t_cutp (s : List UInt8) (c : UInt8) (hs : s.length ≤ 1000000) : PCall Tryd.prog 40 [.str s, .str [c]] (· = cutPreP c s) := by
  refine pcall_vc c_cutp (by simp [c_cutp]) fun x K hK => ?_
  simp [c_cutp]
  refine oks_callz [] .wide [.str s, .str [c]] (t_scutp s c hs) (by simp) (by simp; rfl) (by simp) ?_
  rintro _ rfl
  refine oks_vc .wide ?_
  simp [cutPreP]
  exact hK _ (by simp [cutPreP])

theorem t_tlb (s : List UInt8) (c : UInt8) (hs : s.length ≤ 1000000) : PCall Tryd.prog 94 [.str s, .int .u8 (c.toNat : Int)] (· = .str (s.dropWhile (· == c))) := by
  refine pcall_vc c_tlb (by simp [c_tlb]) fun x K hK => ?_
  simp [c_tlb]
  refine vc_loop .wide (fun t : List UInt8 => ⟨17, [(0, .p (.str t)), (1, .p (.int .u8 (c.toNat : Int)))], []⟩)
    (fun t => t.dropWhile (· == c) = s.dropWhile (· == c)) (fun t => t.length) s rfl (sub_iff (by simp)) ?_
  intro t ht Q g1 g2
  cases t with
  | nil =>
    simp
    refine g2 _ _ (by simp) ?_
    simp at ht
    simp
    exact hK _ (by simp [ht])
  | cons y r =>
    by_cases e : y = c
    · subst e
      simp [show (0 : Int) < (r.length : Int) + 1 by omega, show (1 : Nat) ≤ r.length + 1 by omega]
      refine g1 _ r ?_ (by simp) (sub_iff (by simp))
      simpa using ht
    · have e' : ¬ y.toNat = c.toNat := fun h => e (UInt8.toNat_inj.1 h)
      simp [show (0 : Int) < (r.length : Int) + 1 by omega, e, e']
      refine ⟨fun h => (e' (by omega)).elim, fun _ => g2 _ _ (by simp) ?_⟩
      simp
      refine hK _ ?_
      rw [← ht]
      simp [e]
theorem t_tl (s : List UInt8) (c : UInt8) (hc : c.toNat < 128) (hs : s.length ≤ 1000000) : PCall Tryd.prog 71 [.str s, .str [c]] (· = .str (s.dropWhile (· == c))) := by
  refine pcall_vc c_tl (by simp [c_tl]) fun x K hK => ?_
  by_cases e : s = []
  · subst e
    simp [c_tl]
    exact hK _ rfl
  · simp [c_tl, e, show (c.toNat : Int) < 128 by omega]
    refine oks_callz [] .wide [.str s, .int .u8 (c.toNat : Int)] (t_tlb s c hs) (by simp) (by simp; rfl) (by simp) ?_
    rintro _ rfl
    refine oks_vc .wide ?_
    simp
    exact hK _ rfl
end Go.Dl
