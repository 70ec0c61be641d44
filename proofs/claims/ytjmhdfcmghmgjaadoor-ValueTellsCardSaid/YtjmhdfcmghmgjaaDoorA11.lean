/- Contracts of hornbeam/value and hornbeam/logic. -/
import Derived.Test.YtjmhdfcmghmgjaaDoorA10
set_option linter.unusedVariables false
set_option linter.unusedSimpArgs false
set_option maxRecDepth 1000000
namespace Go.Dl
open Go.Proofs

noncomputable def c_vnum : { d : DFn // compF Tryd.prog 18 = some d } := by
  refine ⟨?_, ?_⟩
  rotate_left
  · conv => lhs; reduce
noncomputable def c_valid : { d : DFn // compF Tryd.prog 15 = some d } := by
  refine ⟨?_, ?_⟩
  rotate_left
  · conv => lhs; reduce
noncomputable def c_field : { d : DFn // compF Tryd.prog 34 = some d } := by
  refine ⟨?_, ?_⟩
  rotate_left
  · conv => lhs; reduce
noncomputable def c_order : { d : DFn // compF Tryd.prog 58 = some d } := by
  refine ⟨?_, ?_⟩
  rotate_left
  · conv => lhs; reduce
noncomputable def c_compare : { d : DFn // compF Tryd.prog 35 = some d } := by
  refine ⟨?_, ?_⟩
  rotate_left
  · conv => lhs; reduce
noncomputable def c_truth : { d : DFn // compF Tryd.prog 36 = some d } := by
  refine ⟨?_, ?_⟩
  rotate_left
  · conv => lhs; reduce
noncomputable def c_known : { d : DFn // compF Tryd.prog 57 = some d } := by
  refine ⟨?_, ?_⟩
  rotate_left
  · conv => lhs; reduce
noncomputable def c_and : { d : DFn // compF Tryd.prog 31 = some d } := by
  refine ⟨?_, ?_⟩
  rotate_left
  · conv => lhs; reduce
noncomputable def c_or : { d : DFn // compF Tryd.prog 32 = some d } := by
  refine ⟨?_, ?_⟩
  rotate_left
  · conv => lhs; reduce
noncomputable def c_first : { d : DFn // compF Tryd.prog 33 = some d } := by
  refine ⟨?_, ?_⟩
  rotate_left
  · conv => lhs; reduce
noncomputable def c_eval : { d : DFn // compF Tryd.prog 10 = some d } := by
  refine ⟨?_, ?_⟩
  rotate_left
  · conv => lhs; reduce

structure Val where
  kind : Int
  num : List UInt8
  cat : List UInt8
def encV (v : Val) : List PV := [.int .i64 v.kind, .str v.num, .str v.cat]
def numOk (v : Val) : Bool := decide (v.kind = 1) && decide (v.cat = []) && rOk v.num
def numV (v : Val) : Bool × Nat × Nat := if numOk v then rval v.num else (false, 0, 0)

theorem t_vnum (v : Val) (hs : v.num.length ≤ 100000) : PCall Tryd.prog 18 [.agg (encV v)] (· = .tup [encR (numV v), .bool (numOk v)]) := by
  obtain ⟨k, s, c⟩ := v
  refine pcall_vcz c_vnum (by simp [c_vnum]) fun x K hK => ?_
  by_cases hk : k = 1
  · by_cases hc : c = []
    · simp [c_vnum, encV, hk, hc]
      refine oks_callz [] .wide [.str s] (t_rparse s hs) (by simp) (by simp; rfl) (by simp) ?_
      rintro _ rfl
      refine oks_vc .wide ?_
      by_cases hr : rOk s = true
      · simp [rparseP, hr, encR, encRat]
        exact hK _ _ rfl (by simp [numV, numOk, hk, hc, hr, encR, encRat])
      · simp [rparseP, hr, encR, encRat]
        exact hK _ _ rfl (by simp [numV, numOk, hk, hc, hr, encR, encRat])
    · simp [c_vnum, encV, hk, hc]
      exact hK _ _ rfl (by simp [numV, numOk, hk, hc, encR, encRat, limbs_zero])
  · simp [c_vnum, encV, hk, show (k != 1) = true by simpa using hk]
    exact hK _ _ rfl (by simp [numV, numOk, hk, encR, encRat, limbs_zero])

def validP (v : Val) : Bool := if v.kind = 0 then decide (v.num = []) && decide (v.cat = []) else if v.kind = 2 then decide (v.num = []) && decide (v.cat.length ≤ 60) else numOk v
theorem t_valid (v : Val) (hs : v.num.length ≤ 100000) : PCall Tryd.prog 15 [.agg (encV v)] (· = .bool (validP v)) := by
  obtain ⟨k, s, c⟩ := v
  refine pcall_vcz c_valid (by simp [c_valid]) fun x K hK => ?_
  by_cases h0 : k = 0
  · by_cases hn : s = []
    · simp [c_valid, encV, h0, hn]
      exact hK _ _ rfl (by by_cases hc : c = [] <;> simp [validP, h0, hn, hc])
    · simp [c_valid, encV, h0, hn]
      exact hK _ _ rfl (by simp [validP, h0, hn])
  · by_cases h2 : k = 2
    · by_cases hn : s = []
      · simp [c_valid, encV, h0, h2, hn]
        exact hK _ _ rfl (by simp [validP, h0, hn, h2]; omega)
      · simp [c_valid, encV, h0, h2, hn]
        exact hK _ _ rfl (by simp [validP, h0, hn, h2])
    · simp [c_valid, encV, h0, h2]
      refine oks_callz [] .wide [.agg (encV ⟨k, s, c⟩)] (t_vnum ⟨k, s, c⟩ hs) (by simp) (by simp; rfl) (by simp [encV]) ?_
      rintro _ rfl
      refine oks_vc .wide ?_
      simp [encR, encRat]
      exact hK _ _ rfl (by simp [validP, h0, h2])

def zeroV : Val := ⟨0, [], []⟩
def fieldV (row : List Val) (k : Int) : Val := if 0 ≤ k then match row[k.toNat]? with | some v => if validP v then v else zeroV | none => zeroV else zeroV
def encVs (l : List Val) : List (List PV) := l.map encV
@[simp] theorem encVs_len (l : List Val) : (encVs l).length = l.length := by simp [encVs]
@[simp] theorem encVs_get (l : List Val) (i : Nat) : (encVs l)[i]? = (l[i]?).map encV := by simp [encVs]
@[simp] theorem encVs_getElem (l : List Val) (i : Nat) (h : i < (encVs l).length) : (encVs l)[i] = encV (l[i]'(by simpa using h)) := by simp [encVs]
theorem t_field (row : List Val) (k : Int) (hs : ∀ v, v ∈ row → v.num.length ≤ 100000) : PCall Tryd.prog 34 [.sl none 3 (encVs row) [], .int .i64 k] (· = .agg (encV (fieldV row k))) := by
  refine pcall_vcz c_field (by simp [c_field]) fun x K hK => ?_
  by_cases h0 : k < 0
  · simp [c_field, h0]
    refine oks_skipc .wide (by simp) (oks_vc .wide ?_)
    simp
    exact hK _ _ rfl (by simp [fieldV, show ¬ 0 ≤ k by omega, encV, zeroV])
  · obtain ⟨i, rfl⟩ : ∃ i : Nat, k = (i : Int) := ⟨k.toNat, by omega⟩
    by_cases h1 : i < row.length
    · have hi0 : ¬ (i : Int) < 0 := by omega
      have hv : row[i]? = some row[i] := List.getElem?_eq_getElem h1
      simp [c_field, h1, hi0, show ¬ row.length ≤ i by omega, encV]
      refine oks_callz [] .wide [.agg (encV row[i])] (t_valid row[i] (hs _ (List.getElem_mem h1))) (by simp) (by simp [encV]; rfl) (by simp [encV]) ?_
      rintro _ rfl
      refine oks_vc .wide ?_
      by_cases hva : validP row[i] = true
      · simp [hva, h1, encV]
        exact hK _ _ rfl (by simp [fieldV, h1, hva, encV])
      · simp [hva, encV]
        exact hK _ _ rfl (by simp [fieldV, h1, hva, encV, zeroV])
    · have hi0 : ¬ (i : Int) < 0 := by omega
      simp [c_field, hi0, show row.length ≤ i by omega]
      refine oks_skipc .wide (by simp) (oks_vc .wide ?_)
      simp
      exact hK _ _ rfl (by simp [fieldV, h1, encV, zeroV])

theorem t_truth (b : Bool) : PCall Tryd.prog 36 [.bool b] (· = .int .i64 (if b then 1 else 0)) := by
  refine pcall_vc c_truth (by simp [c_truth]) fun x K hK => ?_
  cases b
  · simp [c_truth]; exact hK _ rfl
  · simp [c_truth]; exact hK _ rfl
def ordB (op c : Int) : Bool := if op = 3 then decide (c < 0) else if op = 4 then decide (c ≤ 0) else if op = 5 then decide (c = 0) else if op = 6 then decide (c ≠ 0) else if op = 7 then decide (0 ≤ c) else decide (0 < c)
theorem t_order (op c : Int) (h : 3 ≤ op ∧ op ≤ 8) : PCall Tryd.prog 58 [.int .i64 op, .int .i64 c] (· = .bool (ordB op c)) := by
  refine pcall_vc c_order (by simp [c_order]) fun x K hK => ?_
  obtain rfl | rfl | rfl | rfl | rfl | rfl : op = 3 ∨ op = 4 ∨ op = 5 ∨ op = 6 ∨ op = 7 ∨ op = 8 := by omega
  · simp [c_order]; exact hK _ (by simp [ordB])
  · simp [c_order]; exact hK _ (by simp [ordB])
  · simp [c_order]; exact hK _ (by simp [ordB]; exact Bool.eq_iff_iff.2 (by simp))
  · simp [c_order]; exact hK _ (by simp [ordB]; exact Bool.eq_iff_iff.2 (by simp))
  · simp [c_order]; exact hK _ (by simp [ordB])
  · simp [c_order]; exact hK _ (by simp [ordB])

/-- what a comparison of numbers comes to -/
def cmpV (v w : Val) : Int := rcmpI (numV v).1 ((numV v).2.1 * den1 (numV w).2.2) (numV w).1 ((numV w).2.1 * den1 (numV v).2.2)
theorem numV_len (v : Val) (hs : v.num.length ≤ 100000) : (limbs (numV v).2.1).length ≤ 1200 ∧ (limbs (den1 (numV v).2.2)).length ≤ 1200 := by
  have one : (limbs 1).length ≤ 1200 := by rw [limbs_pos (by decide), show 1 / 4294967296 = 0 by decide, limbs_zero]; simp
  unfold numV
  by_cases h : numOk v = true
  · rw [if_pos h]
    simp only [numOk, rOk, Bool.and_eq_true, decide_eq_true_eq] at h
    obtain ⟨_, ⟨⟨hA, hB⟩, _⟩, _, lA, lB⟩ := h
    have l1 := cutPre_len 45 v.num
    have l2 := cutC_len 47 (cutPre 45 v.num).1
    have := lowN_len (rpNeg v.num) (decval (rpA v.num)) (decval (rpB v.num)) 1200 (Nat.le_trans (limbs_decval _ hA) lA) (Nat.le_trans (limbs_decval _ hB) lB)
    refine ⟨this.1, ?_⟩
    unfold den1
    split
    · exact one
    · exact this.2
  · rw [if_neg h]
    exact ⟨by simp [limbs_zero], by simp only [den1, if_true]; exact one⟩

theorem t_compare (op : Int) (v w : Val) (hop : 3 ≤ op ∧ op ≤ 8) (hv : numOk v = true) (hw : numOk w = true) (h1 : v.num.length ≤ 100000) (h2 : w.num.length ≤ 100000) :
    PCall Tryd.prog 35 [.int .i64 op, .agg (encV v), .sl none 3 [encV w] []] (· = .int .i64 (if ordB op (cmpV v w) then 1 else 0)) := by
  have hk : v.kind = 1 := by simp only [numOk, Bool.and_eq_true, decide_eq_true_eq] at hv; exact hv.1.1
  obtain ⟨a1, a2⟩ := numV_len v h1
  obtain ⟨b1, b2⟩ := numV_len w h2
  have hc := t_rcmp (numV v).1 (numV v).2.1 (numV v).2.2 (numV w).1 (numV w).2.1 (numV w).2.2 (by omega) (by omega) (by omega) (by omega)
  refine pcall_vcz c_compare (by simp [c_compare]) fun x K hK => ?_
  simp [c_compare, encV, hk]
  refine oks_callz [] .wide [.agg (encV v)] (t_vnum v h1) (by simp) (by simp; rfl) (by simp [encV, hk]) ?_
  rintro _ rfl
  refine oks_vc .wide ?_
  simp [encR, encRat, hv]
  refine oks_callz [] .wide [.agg (encV w)] (t_vnum w h2) (by simp) (by simp; rfl) (by simp [encV]) ?_
  rintro _ rfl
  refine oks_vc .wide ?_
  simp [encR, encRat, hw]
  refine oks_callz [] .wide [encR (numV v), encR (numV w)] hc (by simp) (by simp; rfl) (by simp [encR, encRat]) ?_
  rintro _ rfl
  refine oks_vc .wide ?_
  simp
  refine oks_callz [] .wide [.int .i64 op, .int .i64 (cmpV v w)] (t_order op (cmpV v w) hop) (by simp) (by simp; rfl) (by simp; rfl) ?_
  rintro _ rfl
  refine oks_vc .wide ?_
  simp
  refine oks_callz [] .wide [.bool (ordB op (cmpV v w))] (t_truth _) (by simp) (by simp; rfl) (by simp) ?_
  rintro _ rfl
  refine oks_vc .wide ?_
  simp
  exact hK _ _ rfl (by simp)

/-- a comparison, held against a row -/
theorem t_evalc (op : Int) (f : Int) (w : Val) (row : List Val) (hop : 3 ≤ op ∧ op ≤ 8) (hs : ∀ v, v ∈ row → v.num.length ≤ 100000) (hf : numOk (fieldV row f) = true) (hw : numOk w = true) (h1 : (fieldV row f).num.length ≤ 100000) (h2 : w.num.length ≤ 100000) :
    PCall Tryd.prog 10 [.agg [.int .i64 op, .int .i64 f, .sl none 3 [encV w] [], .sl none 4 [] []], .sl none 3 (encVs row) []] (· = .int .i64 (if ordB op (cmpV (fieldV row f) w) then 1 else 0)) := by
  refine pcall_vcz c_eval (by simp [c_eval]) fun x K hK => ?_
  simp [c_eval]
  refine oks_callz [] .wide [.sl none 3 (encVs row) [], .int .i64 f] (t_field row f hs) (by simp) (by simp; rfl) (by simp) ?_
  rintro _ rfl
  refine oks_vc .wide ?_
  generalize fieldV row f = v at *
  have hcmp := t_compare op v w hop hf hw h1 h2
  obtain rfl | rfl | rfl | rfl | rfl | rfl : op = 3 ∨ op = 4 ∨ op = 5 ∨ op = 6 ∨ op = 7 ∨ op = 8 := by omega
  all_goals
    simp [encV]
    refine oks_callz [] .wide _ hcmp (by simp) (by simp; rfl) (by simp [encV]) ?_
    rintro _ rfl
    refine oks_vc .wide ?_
    simp
    exact hK _ _ rfl (by simp)
end Go.Dl
