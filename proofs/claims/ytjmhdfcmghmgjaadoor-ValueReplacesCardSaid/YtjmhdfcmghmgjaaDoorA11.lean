/- Contracts of hornbeam/value and hornbeam/logic. Contracts of hornbeam/logic: And, Or, First, Eval of True; hornbeamlaw13.alive. Naturals of base 10000. Contracts of hornbeamref1: trim, Cmp. Contracts of hornbeamref1: Cmp, Mul. -/
import Derived.Test.YtjmhdfcmghmgjaaDoorA10
set_option linter.unusedVariables false
set_option linter.unusedSimpArgs false
set_option maxRecDepth 1000000
namespace Go.Dl
open Go.Proofs

noncomputable def c_vnum : { d : DFn // compF Tryd.prog 18 = some d } := by
  refine ⟨?_, ?_⟩
  rotate_left
  · conv => lhs; reduce
noncomputable def c_valid : { d : DFn // compF Tryd.prog 15 = some d } := by
  refine ⟨?_, ?_⟩
  rotate_left
  · conv => lhs; reduce
noncomputable def c_field : { d : DFn // compF Tryd.prog 34 = some d } := by
  refine ⟨?_, ?_⟩
  rotate_left
  · conv => lhs; reduce
noncomputable def c_order : { d : DFn // compF Tryd.prog 58 = some d } := by
  refine ⟨?_, ?_⟩
  rotate_left
  · conv => lhs; reduce
noncomputable def c_compare : { d : DFn // compF Tryd.prog 35 = some d } := by
  refine ⟨?_, ?_⟩
  rotate_left
  · conv => lhs; reduce
noncomputable def c_truth : { d : DFn // compF Tryd.prog 36 = some d } := by
  refine ⟨?_, ?_⟩
  rotate_left
  · conv => lhs; reduce
noncomputable def c_known : { d : DFn // compF Tryd.prog 57 = some d } := by
  refine ⟨?_, ?_⟩
  rotate_left
  · conv => lhs; reduce
noncomputable def c_and : { d : DFn // compF Tryd.prog 31 = some d } := by
  refine ⟨?_, ?_⟩
  rotate_left
  · conv => lhs; reduce
noncomputable def c_or : { d : DFn // compF Tryd.prog 32 = some d } := by
  refine ⟨?_, ?_⟩
  rotate_left
  · conv => lhs; reduce
noncomputable def c_first : { d : DFn // compF Tryd.prog 33 = some d } := by
  refine ⟨?_, ?_⟩
  rotate_left
  · conv => lhs; reduce
noncomputable def c_eval : { d : DFn // compF Tryd.prog 10 = some d } := by
  refine ⟨?_, ?_⟩
  rotate_left
  · conv => lhs; reduce

structure Val where
  kind : Int
  num : List UInt8
  cat : List UInt8
def encV (v : Val) : List PV := [.int .i64 v.kind, .str v.num, .str v.cat]
def numOk (v : Val) : Bool := decide (v.kind = 1) && decide (v.cat = []) && rOk v.num
def numV (v : Val) : Bool × Nat × Nat := if numOk v then rval v.num else (false, 0, 0)

theorem t_vnum (v : Val) (hs : v.num.length ≤ 100000) : PCall Tryd.prog 18 [.agg (encV v)] (· = .tup [encR (numV v), .bool (numOk v)]) := by
  obtain ⟨k, s, c⟩ := v
  refine pcall_vcz c_vnum (by simp [c_vnum]) fun x K hK => ?_
  by_cases hk : k = 1
  · by_cases hc : c = []
    · simp [c_vnum, encV, hk, hc]
      refine oks_callz [] .wide [.str s] (t_rparse s hs) (by simp) (by simp; rfl) (by simp) ?_
      rintro _ rfl
      refine oks_vc .wide ?_
      by_cases hr : rOk s = true
      · simp [rparseP, hr, encR, encRat]
        exact hK _ _ rfl (by simp [numV, numOk, hk, hc, hr, encR, encRat])
      · simp [rparseP, hr, encR, encRat]
        exact hK _ _ rfl (by simp [numV, numOk, hk, hc, hr, encR, encRat])
    · simp [c_vnum, encV, hk, hc]
      exact hK _ _ rfl (by simp [numV, numOk, hk, hc, encR, encRat, limbs_zero])
  · simp [c_vnum, encV, hk, show (k != 1) = true by simpa using hk]
    exact hK _ _ rfl (by simp [numV, numOk, hk, encR, encRat, limbs_zero])

def validP (v : Val) : Bool := if v.kind = 0 then decide (v.num = []) && decide (v.cat = []) else if v.kind = 2 then decide (v.num = []) && decide (v.cat.length ≤ 60) else numOk v
theorem t_valid (v : Val) (hs : v.num.length ≤ 100000) : PCall Tryd.prog 15 [.agg (encV v)] (· = .bool (validP v)) := by
  obtain ⟨k, s, c⟩ := v
  refine pcall_vcz c_valid (by simp [c_valid]) fun x K hK => ?_
  by_cases h0 : k = 0
  · by_cases hn : s = []
    · simp [c_valid, encV, h0, hn]
      exact hK _ _ rfl (by by_cases hc : c = [] <;> simp [validP, h0, hn, hc])
    · simp [c_valid, encV, h0, hn]
      exact hK _ _ rfl (by simp [validP, h0, hn])
  · by_cases h2 : k = 2
    · by_cases hn : s = []
      · simp [c_valid, encV, h0, h2, hn]
        exact hK _ _ rfl (by simp [validP, h0, hn, h2]; omega)
      · simp [c_valid, encV, h0, h2, hn]
        exact hK _ _ rfl (by simp [validP, h0, hn, h2])
    · simp [c_valid, encV, h0, h2]
      refine oks_callz [] .wide [.agg (encV ⟨k, s, c⟩)] (t_vnum ⟨k, s, c⟩ hs) (by simp) (by simp; rfl) (by simp [encV]) ?_
      rintro _ rfl
      refine oks_vc .wide ?_
      simp [encR, encRat]
      exact hK _ _ rfl (by simp [validP, h0, h2])

def zeroV : Val := ⟨0, [], []⟩
def fieldV (row : List Val) (k : Int) : Val := if 0 ≤ k then match row[k.toNat]? with | some v => if validP v then v else zeroV | none => zeroV else zeroV
def encVs (l : List Val) : List (List PV) := l.map encV
@[simp] theorem encVs_len (l : List Val) : (encVs l).length = l.length := by simp [encVs]
@[simp] theorem encVs_get (l : List Val) (i : Nat) : (encVs l)[i]? = (l[i]?).map encV := by simp [encVs]
@[simp] theorem encVs_getElem (l : List Val) (i : Nat) (h : i < (encVs l).length) : (encVs l)[i] = encV (l[i]'(by simpa using h)) := by simp [encVs]
theorem t_field (row : List Val) (k : Int) (hs : ∀ v, v ∈ row → v.num.length ≤ 100000) : PCall Tryd.prog 34 [.sl none 3 (encVs row) [], .int .i64 k] (· = .agg (encV (fieldV row k))) := by
  refine pcall_vcz c_field (by simp [c_field]) fun x K hK => ?_
  by_cases h0 : k < 0
  · simp [c_field, h0]
    refine oks_skipc .wide (by simp) (oks_vc .wide ?_)
    simp
    exact hK _ _ rfl (by simp [fieldV, show ¬ 0 ≤ k by omega, encV, zeroV])
  · obtain ⟨i, rfl⟩ : ∃ i : Nat, k = (i : Int) := ⟨k.toNat, by omega⟩
    by_cases h1 : i < row.length
    · have hi0 : ¬ (i : Int) < 0 := by omega
      have hv : row[i]? = some row[i] := List.getElem?_eq_getElem h1
      simp [c_field, h1, hi0, show ¬ row.length ≤ i by omega, encV]
      refine oks_callz [] .wide [.agg (encV row[i])] (t_valid row[i] (hs _ (List.getElem_mem h1))) (by simp) (by simp [encV]; rfl) (by simp [encV]) ?_
      rintro _ rfl
      refine oks_vc .wide ?_
      by_cases hva : validP row[i] = true
      · simp [hva, h1, encV]
        exact hK _ _ rfl (by simp [fieldV, h1, hva, encV])
      · simp [hva, encV]
        exact hK _ _ rfl (by simp [fieldV, h1, hva, encV, zeroV])
    · have hi0 : ¬ (i : Int) < 0 := by omega
      simp [c_field, hi0, show row.length ≤ i by omega]
      refine oks_skipc .wide (by simp) (oks_vc .wide ?_)
      simp
      exact hK _ _ rfl (by simp [fieldV, h1, encV, zeroV])

theorem t_truth (b : Bool) : PCall Tryd.prog 36 [.bool b] (· = .int .i64 (if b then 1 else 0)) := by
  refine pcall_vc c_truth (by simp [c_truth]) fun x K hK => ?_
  cases b
  · simp [c_truth]; exact hK _ rfl
  · simp [c_truth]; exact hK _ rfl
def ordB (op c : Int) : Bool := if op = 3 then decide (c < 0) else if op = 4 then decide (c ≤ 0) else if op = 5 then decide (c = 0) else if op = 6 then decide (c ≠ 0) else if op = 7 then decide (0 ≤ c) else decide (0 < c)
theorem t_order (op c : Int) (h : 3 ≤ op ∧ op ≤ 8) : PCall Tryd.prog 58 [.int .i64 op, .int .i64 c] (· = .bool (ordB op c)) := by
  refine pcall_vc c_order (by simp [c_order]) fun x K hK => ?_
  obtain rfl | rfl | rfl | rfl | rfl | rfl : op = 3 ∨ op = 4 ∨ op = 5 ∨ op = 6 ∨ op = 7 ∨ op = 8 := by omega
  · simp [c_order]; exact hK _ (by simp [ordB])
  · simp [c_order]; exact hK _ (by simp [ordB])
  · simp [c_order]; exact hK _ (by simp [ordB]; exact Bool.eq_iff_iff.2 (by simp))
  · simp [c_order]; exact hK _ (by simp [ordB]; exact Bool.eq_iff_iff.2 (by simp))
  · simp [c_order]; exact hK _ (by simp [ordB])
  · simp [c_order]; exact hK _ (by simp [ordB])

/-- what a comparison of numbers comes to -/
def cmpV (v w : Val) : Int := rcmpI (numV v).1 ((numV v).2.1 * den1 (numV w).2.2) (numV w).1 ((numV w).2.1 * den1 (numV v).2.2)
theorem numV_len (v : Val) (hs : v.num.length ≤ 100000) : (limbs (numV v).2.1).length ≤ 1200 ∧ (limbs (den1 (numV v).2.2)).length ≤ 1200 := by
  have one : (limbs 1).length ≤ 1200 := by rw [limbs_pos (by decide), show 1 / 4294967296 = 0 by decide, limbs_zero]; simp
  unfold numV
  by_cases h : numOk v = true
  · rw [if_pos h]
    simp only [numOk, rOk, Bool.and_eq_true, decide_eq_true_eq] at h
    obtain ⟨_, ⟨⟨hA, hB⟩, _⟩, _, lA, lB⟩ := h
    have l1 := cutPre_len 45 v.num
    have l2 := cutC_len 47 (cutPre 45 v.num).1
    have := lowN_len (rpNeg v.num) (decval (rpA v.num)) (decval (rpB v.num)) 1200 (Nat.le_trans (limbs_decval _ hA) lA) (Nat.le_trans (limbs_decval _ hB) lB)
    refine ⟨this.1, ?_⟩
    unfold den1
    split
    · exact one
    · exact this.2
  · rw [if_neg h]
    exact ⟨by simp [limbs_zero], by simp only [den1, if_true]; exact one⟩

theorem t_compare (op : Int) (v w : Val) (hop : 3 ≤ op ∧ op ≤ 8) (hv : numOk v = true) (hw : numOk w = true) (h1 : v.num.length ≤ 100000) (h2 : w.num.length ≤ 100000) :
    PCall Tryd.prog 35 [.int .i64 op, .agg (encV v), .sl none 3 [encV w] []] (· = .int .i64 (if ordB op (cmpV v w) then 1 else 0)) := by
  have hk : v.kind = 1 := by simp only [numOk, Bool.and_eq_true, decide_eq_true_eq] at hv; exact hv.1.1
  obtain ⟨a1, a2⟩ := numV_len v h1
  obtain ⟨b1, b2⟩ := numV_len w h2
  have hc := t_rcmp (numV v).1 (numV v).2.1 (numV v).2.2 (numV w).1 (numV w).2.1 (numV w).2.2 (by omega) (by omega) (by omega) (by omega)
  refine pcall_vcz c_compare (by simp [c_compare]) fun x K hK => ?_
  simp [c_compare, encV, hk]
  refine oks_callz [] .wide [.agg (encV v)] (t_vnum v h1) (by simp) (by simp; rfl) (by simp [encV, hk]) ?_
  rintro _ rfl
  refine oks_vc .wide ?_
  simp [encR, encRat, hv]
  refine oks_callz [] .wide [.agg (encV w)] (t_vnum w h2) (by simp) (by simp; rfl) (by simp [encV]) ?_
  rintro _ rfl
  refine oks_vc .wide ?_
  simp [encR, encRat, hw]
  refine oks_callz [] .wide [encR (numV v), encR (numV w)] hc (by simp) (by simp; rfl) (by simp [encR, encRat]) ?_
  rintro _ rfl
  refine oks_vc .wide ?_
  simp
  refine oks_callz [] .wide [.int .i64 op, .int .i64 (cmpV v w)] (t_order op (cmpV v w) hop) (by simp) (by simp; rfl) (by simp; rfl) ?_
  rintro _ rfl
  refine oks_vc .wide ?_
  simp
  refine oks_callz [] .wide [.bool (ordB op (cmpV v w))] (t_truth _) (by simp) (by simp; rfl) (by simp) ?_
  rintro _ rfl
  refine oks_vc .wide ?_
  simp
  exact hK _ _ rfl (by simp)

/-- a comparison, held against a row -/
theorem t_evalc (op : Int) (f : Int) (w : Val) (row : List Val) (hop : 3 ≤ op ∧ op ≤ 8) (hs : ∀ v, v ∈ row → v.num.length ≤ 100000) (hf : numOk (fieldV row f) = true) (hw : numOk w = true) (h1 : (fieldV row f).num.length ≤ 100000) (h2 : w.num.length ≤ 100000) :
    PCall Tryd.prog 10 [.agg [.int .i64 op, .int .i64 f, .sl none 3 [encV w] [], .sl none 4 [] []], .sl none 3 (encVs row) []] (· = .int .i64 (if ordB op (cmpV (fieldV row f) w) then 1 else 0)) := by
  refine pcall_vcz c_eval (by simp [c_eval]) fun x K hK => ?_
  simp [c_eval]
  refine oks_callz [] .wide [.sl none 3 (encVs row) [], .int .i64 f] (t_field row f hs) (by simp) (by simp; rfl) (by simp) ?_
  rintro _ rfl
  refine oks_vc .wide ?_
  generalize fieldV row f = v at *
  have hcmp := t_compare op v w hop hf hw h1 h2
  obtain rfl | rfl | rfl | rfl | rfl | rfl : op = 3 ∨ op = 4 ∨ op = 5 ∨ op = 6 ∨ op = 7 ∨ op = 8 := by omega
  all_goals
    simp [encV]
    refine oks_callz [] .wide _ hcmp (by simp) (by simp; rfl) (by simp [encV]) ?_
    rintro _ rfl
    refine oks_vc .wide ?_
    simp
    exact hK _ _ rfl (by simp)
end Go.Dl
set_option linter.unusedVariables false
set_option linter.unusedSimpArgs false
set_option maxRecDepth 1000000
namespace Go.Dl
open Go.Proofs

noncomputable def c_alive13 : { d : DFn // compF Tryd.prog 8 = some d } := by
  refine ⟨?_, ?_⟩
  rotate_left
  · conv => lhs; reduce

def encI (l : List Int) : List (List PV) := l.map fun n => [.int .i64 n]
@[simp] theorem encI_len (l : List Int) : (encI l).length = l.length := by simp [encI]
@[simp] theorem encI_get (l : List Int) (i : Nat) : (encI l)[i]? = (l[i]?).map fun n => [PV.int .i64 n] := by simp [encI]
@[simp] theorem encI_getElem (l : List Int) (i : Nat) (h : i < (encI l).length) : (encI l)[i] = [PV.int .i64 (l[i]'(by simpa using h))] := by simp [encI]

def knownB (a : Int) : Bool := decide (a = 1) || decide (a = 0)
theorem t_known (a : Int) : PCall Tryd.prog 57 [.int .i64 a] (· = .bool (knownB a)) := by
  refine pcall_vc c_known (by simp [c_known]) fun x K hK => ?_
  by_cases h1 : a = 1
  · simp [c_known, h1]
    exact hK _ (by simp [knownB, h1])
  · simp [c_known, h1]
    exact hK _ (by simp [knownB, h1]; exact Bool.eq_iff_iff.2 (by simp))
def andR (out : Int) : List Int → Int
  | [] => out
  | a :: r => if a = 0 then 0 else andR (if knownB a then out else 2) r
def orR (out : Int) : List Int → Int
  | [] => out
  | a :: r => if a = 1 then 1 else orR (if knownB a then out else 2) r
def firstR : List Int → Int
  | [] => 2
  | a :: r => if knownB a then a else firstR r

theorem t_and (l : List Int) : PCall Tryd.prog 31 [.sl none 1 (encI l) []] (· = .int .i64 (andR 1 l)) := by
  refine PCall.lens fun hlen => ?_
  have hlen : l.length ≤ 9223372036854775807 := by simpa [PV.lenok] using hlen
  refine pcall_vc c_and (by simp [c_and]) fun x K hK => ?_
  simp [c_and]
  refine vc_loop .wide (fun y : Nat × Int => ⟨21, [(8, .p (.int .i64 (y.1 : Int))), (7, .p (.int .i64 (l.length : Int))), (6, .p (.sl none 1 (encI l) [])), (3, .p (.int .i64 y.2))], []⟩)
    (fun y => y.1 ≤ l.length ∧ andR y.2 (l.drop y.1) = andR 1 l) (fun y => l.length - y.1) (0, 1) ⟨by simp, by simp⟩ (sub_iff (by simp)) ?_
  rintro ⟨i, out⟩ ⟨h1, h2⟩ Q k1 k2
  simp only at h1 h2
  by_cases hi : i = l.length
  · subst hi
    simp [andR] at h2
    simp
    refine k2 _ _ (by simp) ?_
    simp
    exact hK _ (by rw [h2])
  · have hlt : i < l.length := by omega
    have hw : IntKind.i64.wrap ((i : Int) + 1) = (i : Int) + 1 := wrap_i64 (by omega)
    rw [List.drop_eq_getElem_cons hlt, andR] at h2
    by_cases h0 : l[i] = 0
    · rw [if_pos h0] at h2
      simp [hlt, h0]
      refine k2 _ _ (by simp) ?_
      simp
      exact hK _ (by rw [h2])
    · rw [if_neg h0] at h2
      simp [hlt, h0]
      refine oks_callz [] .wide [.int .i64 l[i]] (t_known l[i]) (by simp) (by simp; rfl) (by simp) ?_
      rintro _ rfl
      refine oks_vc .wide ?_
      cases hk : knownB l[i] with
      | true =>
        rw [hk] at h2
        simp [hw]
        exact k1 _ (i + 1, out) ⟨by omega, by simpa using h2⟩ (by simp only; omega) (sub_iff (by simp))
      | false =>
        rw [hk] at h2
        simp [hw]
        exact k1 _ (i + 1, 2) ⟨by omega, by simpa using h2⟩ (by simp only; omega) (sub_iff (by simp))
theorem t_or (l : List Int) : PCall Tryd.prog 32 [.sl none 1 (encI l) []] (· = .int .i64 (orR 0 l)) := by
  refine PCall.lens fun hlen => ?_
  have hlen : l.length ≤ 9223372036854775807 := by simpa [PV.lenok] using hlen
  refine pcall_vc c_or (by simp [c_or]) fun x K hK => ?_
  simp [c_or]
  refine vc_loop .wide (fun y : Nat × Int => ⟨21, [(8, .p (.int .i64 (y.1 : Int))), (7, .p (.int .i64 (l.length : Int))), (6, .p (.sl none 1 (encI l) [])), (3, .p (.int .i64 y.2))], []⟩)
    (fun y => y.1 ≤ l.length ∧ orR y.2 (l.drop y.1) = orR 0 l) (fun y => l.length - y.1) (0, 0) ⟨by simp, by simp⟩ (sub_iff (by simp)) ?_
  rintro ⟨i, out⟩ ⟨h1, h2⟩ Q k1 k2
  simp only at h1 h2
  by_cases hi : i = l.length
  · subst hi
    simp [orR] at h2
    simp
    refine k2 _ _ (by simp) ?_
    simp
    exact hK _ (by rw [h2])
  · have hlt : i < l.length := by omega
    have hw : IntKind.i64.wrap ((i : Int) + 1) = (i : Int) + 1 := wrap_i64 (by omega)
    rw [List.drop_eq_getElem_cons hlt, orR] at h2
    by_cases h0 : l[i] = 1
    · rw [if_pos h0] at h2
      simp [hlt, h0]
      refine k2 _ _ (by simp) ?_
      simp
      exact hK _ (by rw [h2])
    · rw [if_neg h0] at h2
      simp [hlt, h0]
      refine oks_callz [] .wide [.int .i64 l[i]] (t_known l[i]) (by simp) (by simp; rfl) (by simp) ?_
      rintro _ rfl
      refine oks_vc .wide ?_
      cases hk : knownB l[i] with
      | true =>
        rw [hk] at h2
        simp [hw]
        exact k1 _ (i + 1, out) ⟨by omega, by simpa using h2⟩ (by simp only; omega) (sub_iff (by simp))
      | false =>
        rw [hk] at h2
        simp [hw]
        exact k1 _ (i + 1, 2) ⟨by omega, by simpa using h2⟩ (by simp only; omega) (sub_iff (by simp))
theorem t_first (l : List Int) : PCall Tryd.prog 33 [.sl none 1 (encI l) []] (· = .int .i64 (firstR l)) := by
  refine PCall.lens fun hlen => ?_
  have hlen : l.length ≤ 9223372036854775807 := by simpa [PV.lenok] using hlen
  refine pcall_vc c_first (by simp [c_first]) fun x K hK => ?_
  simp [c_first]
  refine vc_loop .wide (fun i : Nat => ⟨15, [(7, .p (.int .i64 (i : Int))), (6, .p (.int .i64 (l.length : Int))), (5, .p (.sl none 1 (encI l) []))], []⟩)
    (fun i => i ≤ l.length ∧ firstR (l.drop i) = firstR l) (fun i => l.length - i) 0 ⟨by simp, by simp⟩ (sub_iff (by simp)) ?_
  rintro i ⟨h1, h2⟩ Q k1 k2
  by_cases hi : i = l.length
  · subst hi
    simp [firstR] at h2
    simp
    refine k2 _ _ (by simp) ?_
    simp
    exact hK _ (by rw [← h2])
  · have hlt : i < l.length := by omega
    have hw : IntKind.i64.wrap ((i : Int) + 1) = (i : Int) + 1 := wrap_i64 (by omega)
    rw [List.drop_eq_getElem_cons hlt, firstR] at h2
    simp [hlt]
    refine oks_callz [] .wide [.int .i64 l[i]] (t_known l[i]) (by simp) (by simp; rfl) (by simp) ?_
    rintro _ rfl
    refine oks_vc .wide ?_
    cases hk : knownB l[i] with
    | true =>
      rw [hk] at h2
      simp
      refine k2 _ _ (by simp) ?_
      simp
      exact hK _ (by rw [← h2]; simp)
    | false =>
      rw [hk] at h2
      simp [hw]
      exact k1 _ (i + 1) ⟨by omega, by simpa using h2⟩ (by omega) (sub_iff (by simp))

/-- Eval of True -/
theorem t_evalT (f : Int) (row : List Val) (hs : ∀ v, v ∈ row → v.num.length ≤ 100000) :
    PCall Tryd.prog 10 [.agg [.int .i64 1, .int .i64 f, .sl none 0 [] [], .sl none 0 [] []], .sl none 3 (encVs row) []] (· = .int .i64 1) := by
  refine pcall_vcz c_eval (by simp [c_eval]) fun x K hK => ?_
  simp [c_eval]
  refine oks_callz [] .wide [.sl none 3 (encVs row) [], .int .i64 f] (t_field row f hs) (by simp) (by simp; rfl) (by simp) ?_
  rintro _ rfl
  refine oks_vc .wide ?_
  simp [encV]
  exact hK _ _ rfl (by simp)

theorem t_alive13 : PCall Tryd.prog 8 [] (· = .bool true) := by
  refine pcall_vcz c_alive13 (by simp [c_alive13]) fun x K hK => ?_
  simp [c_alive13]
  refine oks_callz [1] .wide [.sl none 1 (encI [1, 2]) []] (t_and [1, 2]) (by simp) (by simp; rfl) (by simp [encI]) ?_
  rintro _ rfl
  refine oks_vc .wide ?_
  simp [show andR 1 [1, 2] = 2 by decide]
  refine oks_callz [5] .wide [.sl none 1 (encI [1, 2]) []] (t_or [1, 2]) (by simp) (by simp; rfl) (by simp [encI]) ?_
  rintro _ rfl
  refine oks_vc .wide ?_
  simp [show orR 0 [1, 2] = 1 by decide]
  refine oks_callz [10] .wide [.sl none 1 (encI [2, 0]) []] (t_first [2, 0]) (by simp) (by simp; rfl) (by simp [encI]) ?_
  rintro _ rfl
  refine oks_vc .wide ?_
  simp [show firstR [2, 0] = 0 by decide]
  refine oks_callz [] .wide [.sl none 1 (encI []) []] (t_and []) (by simp) (by simp; rfl) (by simp [encI]) ?_
  rintro _ rfl
  refine oks_vc .wide ?_
  simp [show andR 1 [] = 1 by decide]
  refine oks_callz [] .wide [.agg [.int .i64 1, .int .i64 0, .sl none 0 [] [], .sl none 0 [] []], .sl none 3 (encVs []) []] (t_evalT 0 [] (by simp)) (by simp) (by simp; rfl) (by simp [encVs]) ?_
  rintro _ rfl
  refine oks_vc .wide ?_
  simp
  exact hK _ _ rfl (by simp)
end Go.Dl
set_option linter.unusedVariables false
set_option linter.unusedSimpArgs false
set_option maxRecDepth 1000000
namespace Go.Dl
open Go.Proofs

def valD : List Nat → Nat
  | [] => 0
  | d :: r => d + 10000 * valD r
def limbsD (n : Nat) : List Nat := if h : n = 0 then [] else n % 10000 :: limbsD (n / 10000)
termination_by n
decreasing_by omega
def OkLD (l : List Nat) : Prop := ∀ d, d ∈ l → d < 10000
def encD (l : List Nat) : List (List PV) := l.map fun (d : Nat) => [.int .i64 (U d)]
@[simp] theorem enc_lenD (l : List Nat) : (encD l).length = l.length := by simp [encD]
@[simp] theorem enc_nilD : encD [] = [] := rfl
@[simp] theorem enc_getD (l : List Nat) (i : Nat) : (encD l)[i]? = (l[i]?).map fun (n : Nat) => [PV.int .i64 (U n)] := by simp [encD]
theorem enc_appD (a b : List Nat) : encD (a ++ b) = encD a ++ encD b := by simp [encD]
theorem enc_takeD (a : List Nat) (n : Nat) : (encD a).take n = encD (a.take n) := by simp [encD]
theorem enc_dropD (a : List Nat) (n : Nat) : (encD a).drop n = encD (a.drop n) := by simp [encD]
@[simp] theorem enc_setD (a : List Nat) (i v : Nat) : (encD a).set i [.int .i64 (U v)] = encD (a.set i v) := by simp [encD]
theorem limbs_zeroD : limbsD 0 = [] := by rw [limbsD]; simp
theorem limbs_posD {n : Nat} (h : n ≠ 0) : limbsD n = n % 10000 :: limbsD (n / 10000) := by rw [limbsD]; simp [h]
theorem val_limbsD (n : Nat) : valD (limbsD n) = n := by
  induction n using Nat.strongRecOn with
  | ind n ih =>
    by_cases h : n = 0
    · subst h; rw [limbs_zeroD]; rfl
    · rw [limbs_posD h, valD, ih _ (by omega)]; omega
theorem limbs_okD (n : Nat) : OkLD (limbsD n) := by
  induction n using Nat.strongRecOn with
  | ind n ih =>
    by_cases h : n = 0
    · subst h; rw [limbs_zeroD]; intro d hd; cases hd
    · rw [limbs_posD h]
      intro d hd
      rcases List.mem_cons.1 hd with rfl | hd
      · omega
      · exact ih _ (by omega) d hd
theorem val_zerosD {l : List Nat} (h : ∀ d, d ∈ l → d = 0) : valD l = 0 := by
  induction l with
  | nil => rfl
  | cons d r ih => rw [valD, h d (by simp), ih (fun d hd => h d (by simp [hd]))]
theorem limbs_valD : ∀ {l : List Nat}, OkLD l → (∀ k d, l.length = k + 1 → l[k]? = some d → d ≠ 0) → limbsD (valD l) = l
  | [], _, _ => limbs_zeroD
  | d :: r, h, hl => by
    have hd : d < 10000 := h d (by simp)
    have hr : OkLD r := fun e he => h e (by simp [he])
    have ih := limbs_valD hr (fun k e hk he => hl (k + 1) e (by simp [hk]) (by simpa using he))
    have hne : valD (d :: r) ≠ 0 := by
      rw [valD]
      cases r with
      | nil =>
        have := hl 0 d (by simp) (by simp)
        omega
      | cons e r' =>
        intro h0
        have hv : valD (e :: r') = 0 := by omega
        rw [hv, limbs_zeroD] at ih
        cases ih
    rw [limbs_posD hne]
    congr 1
    · rw [valD]; omega
    · rw [valD, show (d + 10000 * valD r) / 10000 = valD r by omega]; exact ih
theorem val_appendD (a b : List Nat) : valD (a ++ b) = valD a + 10000 ^ a.length * valD b := by
  induction a with
  | nil => simp [valD]
  | cons d r ih =>
    simp only [List.cons_append, valD, ih, List.length_cons, Nat.pow_succ]
    rw [Nat.mul_add, Nat.add_assoc]
    congr 2
    rw [← Nat.mul_assoc, Nat.mul_comm 10000 (10000 ^ r.length)]
theorem take_limbsD {l : List Nat} (h : OkLD l) (n : Nat) (hn : n ≤ l.length) (h0 : ∀ k, n ≤ k → k < l.length → l[k]? = some 0) (h1 : ∀ k, n = k + 1 → l[k]? ≠ some 0) : l.take n = limbsD (valD l) := by
  have hv : valD l = valD (l.take n) := by
    conv => lhs; rw [← List.take_append_drop n l, val_appendD]
    rw [val_zerosD (l := l.drop n)]
    · simp
    · intro d hd
      obtain ⟨i, hi⟩ := List.getElem?_of_mem hd
      rw [List.getElem?_drop] at hi
      have hlt := (List.getElem?_eq_some_iff.1 hi).1
      have := h0 (n + i) (by omega) hlt
      rw [hi] at this
      exact Option.some.inj this
  rw [hv, limbs_valD (fun d hd => h d (List.mem_of_mem_take hd))]
  intro k d hk hd
  have hnk : n = k + 1 := by simp at hk; omega
  have hlt : k < n := by omega
  rw [List.getElem?_take_of_lt hlt] at hd
  intro e
  exact h1 k hnk (by rw [hd, e])
theorem val_ltD {l : List Nat} (h : OkLD l) : valD l < 10000 ^ l.length := by
  induction l with
  | nil => simp [valD]
  | cons d r ih =>
    have := ih (fun e he => h e (by simp [he]))
    have hd := h d (by simp)
    rw [valD, List.length_cons, Nat.pow_succ]
    generalize 10000 ^ r.length = q at *
    omega
theorem limbs_len_zeroD {n : Nat} : (limbsD n).length = 0 ↔ n = 0 := by
  constructor
  · intro h
    have := List.eq_nil_of_length_eq_zero h
    rw [← val_limbsD n, this]; rfl
  · rintro rfl; rw [limbs_zeroD]; rfl
theorem val_setD {l : List Nat} {i v : Nat} (hi : i < l.length) : valD (l.set i v) + 10000 ^ i * l[i] = valD l + 10000 ^ i * v := by
  induction l generalizing i with
  | nil => simp at hi
  | cons d r ih =>
    cases i with
    | zero => simp [valD]; omega
    | succ i =>
      have := ih (i := i) (by simpa using hi)
      simp only [List.set_cons_succ, valD, List.getElem_cons_succ, Nat.pow_succ]
      have e1 : 10000 ^ i * 10000 * r[i]'(by simpa using hi) = 10000 * (10000 ^ i * r[i]'(by simpa using hi)) := by
        rw [Nat.mul_comm (10000 ^ i), Nat.mul_assoc]
      have e2 : 10000 ^ i * 10000 * v = 10000 * (10000 ^ i * v) := by
        rw [Nat.mul_comm (10000 ^ i), Nat.mul_assoc]
      rw [e1, e2]
      omega
@[simp] theorem enc_getElemD (l : List Nat) (i : Nat) (h : i < (encD l).length) : (encD l)[i] = [PV.int .i64 (U (l[i]'(by simpa using h)))] := by simp [encD]
theorem digit_eqD (n i : Nat) : (limbsD n)[i]?.getD 0 = n / 10000 ^ i % 10000 := by
  induction i generalizing n with
  | zero =>
    by_cases h : n = 0
    · subst h; simp [limbs_zeroD]
    · rw [limbs_posD h]; simp
  | succ i ih =>
    by_cases h : n = 0
    · subst h; simp [limbs_zeroD]
    · rw [limbs_posD h, List.getElem?_cons_succ, ih, Nat.pow_succ, Nat.mul_comm, Nat.div_div_eq_div_mul]
theorem set_okD {l : List Nat} {i v : Nat} (h : OkLD l) (hv : v < 10000) : OkLD (l.set i v) := by
  intro d hd
  rcases List.mem_or_eq_of_mem_set hd with hd | rfl
  · exact h d hd
  · exact hv
theorem val_take_succD (B : List Nat) (j : Nat) (hj : j < B.length) : valD (B.take (j + 1)) = valD (B.take j) + 10000 ^ j * B[j] := by
  rw [← List.take_append_getElem hj, val_appendD]
  simp [valD, Nat.min_eq_left (Nat.le_of_lt hj)]
theorem limbs_topD (v : Nat) : ∀ k, (limbsD v).length = k + 1 → (limbsD v)[k]? ≠ some 0 := by
  induction v using Nat.strongRecOn with
  | ind v ih =>
    intro k hk
    by_cases h : v = 0
    · rw [h, limbs_zeroD] at hk; simp at hk
    · rw [limbs_posD h] at hk ⊢
      cases k with
      | zero =>
        simp at hk
        have : v / 10000 = 0 := limbs_len_zeroD.1 (by rw [hk]; rfl)
        simp; omega
      | succ k => simpa using ih _ (by omega) k (by simpa using hk)
theorem okL_takeD {l : List Nat} (h : OkLD l) (n : Nat) : OkLD (l.take n) := fun d hd => h d (List.mem_of_mem_take hd)
theorem limbs_lenD (x k : Nat) (h1 : 10000 ^ k ≤ x) (h2 : x < 10000 ^ (k + 1)) : (limbsD x).length = k + 1 := by
  have h3 := val_ltD (limbs_okD x)
  rw [val_limbsD] at h3
  have h4 : k < (limbsD x).length := (Nat.pow_lt_pow_iff_right (by decide : 1 < 10000)).1 (Nat.lt_of_le_of_lt h1 h3)
  rcases Nat.lt_or_ge (k + 1) (limbsD x).length with h5 | h5
  · exfalso
    obtain ⟨j, hj⟩ : ∃ j, (limbsD x).length = j + 1 := ⟨(limbsD x).length - 1, by omega⟩
    have h6 := limbs_topD x j hj
    have h7 := digit_eqD x j
    have h8 : x / 10000 ^ j = 0 := Nat.div_eq_of_lt (Nat.lt_of_lt_of_le h2 (Nat.pow_le_pow_right (by decide) (by omega)))
    rw [h8, Nat.zero_mod] at h7
    rw [List.getElem?_eq_getElem (by omega)] at h6 h7
    exact h6 (by rw [← h7]; rfl)
  · omega
theorem limbs_geD (x k : Nat) (h : (limbsD x).length = k + 1) : 10000 ^ k ≤ x := by
  refine Nat.le_of_not_lt fun h1 => ?_
  have h6 := limbs_topD x k h
  have h7 := digit_eqD x k
  rw [Nat.div_eq_of_lt h1, Nat.zero_mod] at h7
  rw [List.getElem?_eq_getElem (by omega)] at h6 h7
  exact h6 (by rw [← h7]; rfl)
theorem limbs_ltD (x : Nat) : x < 10000 ^ (limbsD x).length := by
  have := val_ltD (limbs_okD x)
  rwa [val_limbsD] at this
theorem val_splitD (l : List Nat) (j : Nat) (h : j ≤ l.length) : valD l = valD (l.take j) + 10000 ^ j * valD (l.drop j) := by
  conv => lhs; rw [← List.take_append_drop j l, val_appendD, List.length_take, Nat.min_eq_left h]
theorem limbs_len_leD {U : List Nat} (h : OkLD U) : (limbsD (valD U)).length ≤ U.length := by
  rcases Nat.eq_zero_or_pos (limbsD (valD U)).length with h0 | h0
  · omega
  · obtain ⟨k, hk⟩ : ∃ k, (limbsD (valD U)).length = k + 1 := ⟨(limbsD (valD U)).length - 1, by omega⟩
    have h1 := limbs_geD _ k hk
    have h2 := val_ltD h
    have := (Nat.pow_lt_pow_iff_right (by decide : 1 < 10000)).1 (Nat.lt_of_le_of_lt h1 h2)
    omega
theorem limbs_monoD {a b : Nat} (h : a ≤ b) : (limbsD a).length ≤ (limbsD b).length := by
  rcases Nat.eq_zero_or_pos (limbsD a).length with h0 | h0
  · omega
  · obtain ⟨k, hk⟩ : ∃ k, (limbsD a).length = k + 1 := ⟨(limbsD a).length - 1, by omega⟩
    have h1 := limbs_geD _ k hk
    have h2 := limbs_ltD b
    have := (Nat.pow_lt_pow_iff_right (by decide : 1 < 10000)).1 (Nat.lt_of_le_of_lt (Nat.le_trans h1 h) h2)
    omega
end Go.Dl
set_option linter.unusedVariables false
set_option linter.unusedSimpArgs false
set_option maxRecDepth 1000000
namespace Go.Dl
open Go.Proofs

noncomputable def c_rtrim : { d : DFn // compF Tryd.prog 82 = some d } := by
  refine ⟨?_, ?_⟩
  rotate_left
  · conv => lhs; reduce
noncomputable def c_rrcmp : { d : DFn // compF Tryd.prog 50 = some d } := by
  refine ⟨?_, ?_⟩
  rotate_left
  · conv => lhs; reduce
noncomputable def c_rmul : { d : DFn // compF Tryd.prog 83 = some d } := by
  refine ⟨?_, ?_⟩
  rotate_left
  · conv => lhs; reduce
noncomputable def c_rsub : { d : DFn // compF Tryd.prog 113 = some d } := by
  refine ⟨?_, ?_⟩
  rotate_left
  · conv => lhs; reduce
noncomputable def c_rdivmod : { d : DFn // compF Tryd.prog 100 = some d } := by
  refine ⟨?_, ?_⟩
  rotate_left
  · conv => lhs; reduce
noncomputable def c_rgcd : { d : DFn // compF Tryd.prog 99 = some d } := by
  refine ⟨?_, ?_⟩
  rotate_left
  · conv => lhs; reduce
noncomputable def c_rrtext : { d : DFn // compF Tryd.prog 49 = some d } := by
  refine ⟨?_, ?_⟩
  rotate_left
  · conv => lhs; reduce
noncomputable def c_rrparse : { d : DFn // compF Tryd.prog 75 = some d } := by
  refine ⟨?_, ?_⟩
  rotate_left
  · conv => lhs; reduce
noncomputable def c_rmake : { d : DFn // compF Tryd.prog 76 = some d } := by
  refine ⟨?_, ?_⟩
  rotate_left
  · conv => lhs; reduce
noncomputable def c_rrattext : { d : DFn // compF Tryd.prog 21 = some d } := by
  refine ⟨?_, ?_⟩
  rotate_left
  · conv => lhs; reduce
noncomputable def c_rratparse : { d : DFn // compF Tryd.prog 46 = some d } := by
  refine ⟨?_, ?_⟩
  rotate_left
  · conv => lhs; reduce
noncomputable def c_rnum : { d : DFn // compF Tryd.prog 19 = some d } := by
  refine ⟨?_, ?_⟩
  rotate_left
  · conv => lhs; reduce
noncomputable def c_rvalid : { d : DFn // compF Tryd.prog 9 = some d } := by
  refine ⟨?_, ?_⟩
  rotate_left
  · conv => lhs; reduce

theorem evi_add (a b : Nat) (h : a + b < 9223372036854775808) : evBin .add (.int .i64 (U a)) (.int .i64 (U b)) = some (.int .i64 (U (a + b))) := by
  simp only [evBin, if_true]; unfold U; rw [wrap_i64 (by omega)]; congr 2
theorem evi_mul (a b : Nat) (h : a * b < 9223372036854775808) : evBin .mul (.int .i64 (U a)) (.int .i64 (U b)) = some (.int .i64 (U (a * b))) := by
  simp only [evBin, if_true]; unfold U
  rw [← Int.natCast_mul, wrap_i64 (by omega)]
theorem evi_sub (a b : Nat) (h : b ≤ a) (h' : a < 9223372036854775808) : evBin .sub (.int .i64 (U a)) (.int .i64 (U b)) = some (.int .i64 (U (a - b))) := by
  simp only [evBin, if_true]; unfold U; rw [wrap_i64 (by omega)]; congr 2; omega
theorem evi_quoW (a : Nat) (h : a < 9223372036854775808) : evBin .quo (.int .i64 (U a)) (.int .i64 10000) = some (.int .i64 (U (a / 10000))) := by
  simp only [evBin, if_true]; unfold U
  rw [if_neg (by decide), Int.tdiv_eq_ediv_of_nonneg (by omega), wrap_i64 (by omega)]; congr 2
theorem evi_remW (a : Nat) : evBin .rem (.int .i64 (U a)) (.int .i64 10000) = some (.int .i64 (U (a % 10000))) := by
  simp only [evBin, if_true]; unfold U
  rw [if_neg (by decide)]; congr 2
theorem evi_quo10 (a : Nat) (h : a < 9223372036854775808) : evBin .quo (.int .i64 (U a)) (.int .i64 10) = some (.int .i64 (U (a / 10))) := by
  simp only [evBin, if_true]; unfold U
  rw [if_neg (by decide), Int.tdiv_eq_ediv_of_nonneg (by omega), wrap_i64 (by omega)]; congr 2
theorem evi_rem10 (a : Nat) : evBin .rem (.int .i64 (U a)) (.int .i64 10) = some (.int .i64 (U (a % 10))) := by
  simp only [evBin, if_true]; unfold U
  rw [if_neg (by decide)]; congr 2
@[simp high] theorem ev_neqU (a b : Nat) (k : IntKind) : evBin .neq (.int k (U a)) (.int k (U b)) = some (.bool (decide (a ≠ b))) := by
  simp only [evBin, if_true]; congr 2
  by_cases h : a = b
  · subst h; simp
  · have : ¬ U a = U b := by unfold U; omega
    simp [h, this]
theorem topD {l : List Nat} (hok : OkLD l) (n : Nat) (hn : n ≤ l.length) (h0 : ∀ k, n ≤ k → k < l.length → l[k]? = some 0) (h1 : ∀ k, n = k + 1 → l[k]? ≠ some 0) : l.take n = limbsD (valD l) := take_limbsD hok n hn h0 h1

theorem r_trim (o : Option Bool) (l : List Nat) (hl : OkLD l) (hlen : l.length ≤ 1000000) : PCall Tryd.prog 82 [.sl o 1 (encD l) []] (· = .sl none 1 (encD (limbsD (valD l))) []) := by
  refine pcall_vc c_rtrim (by simp [c_rtrim]) fun x K hK => ?_
  simp [c_rtrim]
  refine vc_loop .wide (fun n : Nat => ⟨21, [(0, .p (.sl o 1 (encD (l.take n)) (encD (l.drop n))))], []⟩)
    (fun n => n ≤ l.length ∧ ∀ k, n ≤ k → k < l.length → l[k]? = some 0) id l.length ⟨Nat.le_refl _, by omega⟩ (sub_iff (by simp)) ?_
  intro n hn Q h1 h2
  have fin : (∀ k, n = k + 1 → l[k]? ≠ some 0) → K (.sl none 1 (encD (l.take n)) []) := fun h0 => by
    rw [topD hl n hn.1 hn.2 h0]; exact hK _ rfl
  have hmin : min n l.length = n := Nat.min_eq_left hn.1
  by_cases h0 : n = 0
  · subst h0
    simp
    refine h2 _ _ (by simp) ?_
    simp
    simpa using fin (by omega)
  · obtain ⟨m, rfl⟩ : ∃ m, n = m + 1 := ⟨n - 1, by omega⟩
    have hw : IntKind.i64.wrap (((m : Int) + 1) - 1) = m := by rw [wrap_i64 (by omega)]; omega
    have hw' : IntKind.i64.wrap (m : Int) = m := wrap_i64 (by omega)
    have hlt : m < l.length := by omega
    have hd : min (m + 1) l.length = m + 1 := Nat.min_eq_left hn.1
    obtain ⟨L, hL⟩ : ∃ L, L = l.take (m + 1) := ⟨_, rfl⟩
    have hLl : L.length = m + 1 := by rw [hL]; simp; omega
    have hLm : L[m]? = some l[m] := by rw [hL, List.getElem?_take_of_lt (by omega), List.getElem?_eq_getElem hlt]
    obtain ⟨_, hLe⟩ := List.getElem?_eq_some_iff.1 hLm
    obtain ⟨D, hD⟩ : ∃ D, D = l.drop (m + 1) := ⟨_, rfl⟩
    have hDl : D.length = l.length - (m + 1) := by rw [hD]; simp
    have hLD : encD L ++ encD D = encD l := by rw [← enc_appD, hL, hD, List.take_append_drop]
    have hg : l[m]? = some l[m] := List.getElem?_eq_getElem hlt
    have hmi : (m : Int) < (m : Int) + 1 := by omega
    have hpos : (0 : Int) < (m : Int) + 1 := by omega
    simp only [← hL, ← hD]
    by_cases hz : l[m] = 0
    · have ht : (encD l).take m = encD (l.take m) := by rw [enc_takeD]
      have hdd : ((encD l).drop m).take (m + 1 + D.length - m) = encD (l.drop m) := by rw [enc_dropD, enc_takeD, List.take_of_length_le (by simp; omega)]
      simp [hw, hw', hLl, hg, hmi, hpos, hz, hLD, ht, hdd, hlt, show m ≤ m + 1 + D.length by omega]
      refine h1 _ m ⟨by omega, fun k hk hk' => ?_⟩ (by simp) (sub_iff ?_)
      · by_cases e : k = m
        · subst e; simp [hlt, hz]
        · exact hn.2 k (by omega) hk'
      · simp
    · simp [hw, hw', hLl, hg, hmi, hpos, hz, hLD, hlt]
      refine h2 _ _ (by simp) ?_
      simp
      rw [hL]
      exact fin (fun k hk => by
        have : k = m := by omega
        subst this
        simp [hlt, hz])
end Go.Dl
set_option linter.unusedVariables false
set_option linter.unusedSimpArgs false
set_option maxRecDepth 1000000
namespace Go.Dl
open Go.Proofs

theorem len_ltD {a b : Nat} (h : (limbsD a).length < (limbsD b).length) : a < b := Nat.lt_of_not_le fun h' => by
  have := limbs_monoD h'
  omega
theorem aboveD (n k : Nat) (h : (limbsD n).length ≤ k) : n / 10000 ^ k = 0 :=
  Nat.div_eq_of_lt (Nat.lt_of_lt_of_le (limbs_ltD n) (Nat.pow_le_pow_right (by decide) h))
theorem digit_stepD (n m : Nat) : n / 10000 ^ m = n / 10000 ^ (m + 1) * 10000 + n / 10000 ^ m % 10000 := by
  rw [Nat.pow_succ, ← Nat.div_div_eq_div_mul]
  generalize n / 10000 ^ m = u
  omega
def pD (n : Nat) : PV := .sl none 1 (encD (limbsD n)) []

theorem r_cmp (a b : List Nat) (ha : OkLD a) (hb : OkLD b) (la : a.length ≤ 1000000) (lb : b.length ≤ 1000000) : PCall Tryd.prog 50 [.sl none 1 (encD a) [], .sl none 1 (encD b) []] (· = .int .i64 (cmpI (valD a) (valD b))) := by
  refine pcall_vc c_rrcmp (by simp [c_rrcmp]) fun x K hK => ?_
  obtain ⟨u, hu⟩ : ∃ u, u = valD a := ⟨_, rfl⟩
  obtain ⟨v, hv⟩ : ∃ v, v = valD b := ⟨_, rfl⟩
  rw [← hu, ← hv] at hK
  have l1 := limbs_len_leD ha
  have l2 := limbs_len_leD hb
  rw [← hu] at l1
  rw [← hv] at l2
  simp [c_rrcmp]
  refine oks_callz [] .wide [.sl none 1 (encD a) []] (r_trim none a ha la) (by simp) (by simp; rfl) (by simp) ?_
  rintro _ rfl
  refine oks_vc .wide ?_
  simp
  refine oks_callz [] .wide [.sl none 1 (encD b) []] (r_trim none b hb lb) (by simp) (by simp; rfl) (by simp) ?_
  rintro _ rfl
  refine oks_vc .wide ?_
  rw [← hu, ← hv]
  obtain ⟨A, hA⟩ : ∃ A, A = limbsD u := ⟨_, rfl⟩
  obtain ⟨B, hB⟩ : ∃ B, B = limbsD v := ⟨_, rfl⟩
  rw [← hA] at l1
  rw [← hB] at l2
  simp only [← hA, ← hB]
  by_cases hne : A.length = B.length
  · have hw : IntKind.i64.wrap ((A.length : Int) - 1) = (A.length : Int) - 1 := wrap_i64 (by omega)
    have hw' : IntKind.i64.wrap ((B.length : Int) - 1) = (B.length : Int) - 1 := wrap_i64 (by omega)
    simp [hne, hw, hw']
    refine vc_loop .wide (fun k : Nat => ⟨45, [(5, .p (.int .i64 ((k : Int) - 1))), (0, .p (.sl none 1 (encD A) [])), (1, .p (.sl none 1 (encD B) []))], []⟩)
      (fun k => k ≤ B.length ∧ u / 10000 ^ k = v / 10000 ^ k) (fun k => k) B.length ⟨Nat.le_refl _, by rw [aboveD u _ (by rw [← hA]; omega), aboveD v _ (by rw [← hB]; omega)]⟩ (sub_iff (by simp)) ?_
    rintro k ⟨h1, h2⟩ Q k1 k2
    by_cases h0 : k = 0
    · subst h0
      simp
      refine k2 _ _ (by simp) ?_
      simp at h2
      simp
      exact hK _ (by simp [cmpI, h2])
    · obtain ⟨m, rfl⟩ : ∃ m, k = m + 1 := ⟨k - 1, by omega⟩
      have hwm : IntKind.i64.wrap ((m : Int) - 1) = (m : Int) - 1 := wrap_i64 (by omega)
      have hmA : m < A.length := by omega
      have hmB : m < B.length := by omega
      have eA : A[m] = u / 10000 ^ m % 10000 := by
        have := digit_eqD u m; rw [← hA, List.getElem?_eq_getElem hmA] at this; exact this
      have eB : B[m] = v / 10000 ^ m % 10000 := by
        have := digit_eqD v m; rw [← hB, List.getElem?_eq_getElem hmB] at this; exact this
      have sA := digit_stepD u m
      have sB := digit_stepD v m
      rw [← eA, h2] at sA
      rw [← eB] at sB
      have lt_of : ∀ p q : Nat, p / 10000 ^ m < q / 10000 ^ m → p < q := fun p q h => Nat.lt_of_not_le fun h' => by
        have := Nat.div_le_div_right (c := 10000 ^ m) h'
        omega
      simp
      refine vc_draw .wide rfl ?_
      simp [hmA, hmB, hwm]
      by_cases he : A[m] = B[m]
      · simp [he, hwm]
        exact k1 _ m ⟨by omega, by rw [sA, sB, he]⟩ (by omega) (sub_iff (by simp))
      · simp [he]
        refine vc_draw .wide rfl ?_
        simp [hmA, hmB]
        refine ⟨fun h => k2 _ _ (by simp) ?_, fun h => k2 _ _ (by simp) ?_⟩
        · simp
          have := lt_of u v (by omega)
          exact hK _ (by simp [cmpI, this])
        · simp
          have := lt_of v u (by omega)
          exact hK _ (by simp [cmpI, show ¬ u < v by omega, show ¬ u = v by omega])
  · have hne' : ((A.length : Int) != (B.length : Int)) = true := by simp; omega
    have hni : ¬ (A.length : Int) = (B.length : Int) := by omega
    simp [hne, hne', hni]
    refine ⟨fun h => ?_, fun h => ?_⟩
    · have := len_ltD (a := u) (b := v) (by rw [← hA, ← hB]; omega)
      exact hK _ (by simp [cmpI, this])
    · have := len_ltD (a := v) (b := u) (by rw [← hA, ← hB]; omega)
      exact hK _ (by simp [cmpI, show ¬ u < v by omega, show ¬ u = v by omega])

def rmI (A B : List Nat) (y : Nat × List Nat) : St := ⟨67, [(6, .p (.int .i64 (y.1 : Int))), (5, .own 16 1 0 (A.length + B.length + 1) (A.length + B.length + 1)), (0, .p (.sl none 1 (encD A) [])), (1, .p (.sl none 1 (encD B) []))], [(16, ⟨false, 1, .p (encD y.2)⟩)]⟩
def rmJ (A B : List Nat) (i : Nat) (z : Nat × Nat × List Nat) : St := ⟨67, [(8, .p (.int .i64 (z.1 : Int))), (7, .p (.int .i64 (U z.2.1))), (6, .p (.int .i64 (i : Int))), (5, .own 16 1 0 (A.length + B.length + 1) (A.length + B.length + 1)), (0, .p (.sl none 1 (encD A) [])), (1, .p (.sl none 1 (encD B) []))], [(16, ⟨false, 1, .p (encD z.2.2)⟩)]⟩

theorem mul_stepD {V V' c x y d P Z : Nat} (h : V + c * P = Z) (hs : V' + P * d = V + P * ((d + c + x * y) % 10000)) :
    V' + ((d + c + x * y) / 10000) * (P * 10000) = Z + P * (x * y) := by
  have h1 := congrArg (P * ·) (Nat.div_add_mod (d + c + x * y) 10000)
  simp only [Nat.mul_add] at h1
  generalize (d + c + x * y) % 10000 = r at *
  generalize (d + c + x * y) / 10000 = q at *
  rw [Nat.mul_comm c P] at h
  have e1 : q * (P * 10000) = P * (10000 * q) := by rw [Nat.mul_comm q, Nat.mul_assoc, Nat.mul_comm 10000]
  rw [e1]
  omega

theorem r_mul (a b : List Nat) (ha : OkLD a) (hb : OkLD b) (la : a.length ≤ 400000) (lb : b.length ≤ 400000) : PCall Tryd.prog 83 [.sl none 1 (encD a) [], .sl none 1 (encD b) []] (· = pD (valD a * valD b)) := by
  refine pcall_vcz c_rmul (by simp [c_rmul]) fun x K hK => ?_
  have hw0 : IntKind.i64.wrap ((a.length : Int) + (b.length : Int)) = (a.length : Int) + (b.length : Int) := wrap_i64 (by omega)
  have hw : IntKind.i64.wrap ((a.length : Int) + (b.length : Int) + 1) = (a.length : Int) + (b.length : Int) + 1 := wrap_i64 (by omega)
  have b1 : (a.length + b.length + 1) * 8 ≤ 281474976710656 := by omega
  have b2 : a.length + b.length + 1 ≤ 9223372036854775807 := by omega
  have b0 : (0 : Int) ≤ (a.length : Int) + (b.length : Int) + 1 := by omega
  have b3 : ((a.length : Int) + (b.length : Int) + 1).toNat = a.length + b.length + 1 := by omega
  have hrep : List.replicate (a.length + b.length + 1) [PV.int .i64 0] = encD (List.replicate (a.length + b.length + 1) 0) := by simp [encD]
  simp [c_rmul, hw0, hw, b1, b2, b0, b3, hrep]
  refine vc_loop .wide (rmI a b) (fun y => y.1 ≤ a.length ∧ OkLD y.2 ∧ y.2.length = a.length + b.length + 1 ∧ valD y.2 = valD (a.take y.1) * valD b ∧ ∀ k, y.1 + b.length ≤ k → k < a.length + b.length + 1 → y.2[k]? = some 0) (fun y => a.length - y.1)
    ⟨0, List.replicate (a.length + b.length + 1) 0⟩ ⟨by simp, by simp [OkLD], by simp, ?_, ?_⟩ (sub_iff (by simp [rmI])) ?_
  · rw [val_zerosD (by simp)]; simp [valD]
  · intro k h1 h2; simp [h2]
  · rintro ⟨i, cur⟩ ⟨h1, h2, h3, h4, h5⟩ Q g1 g2
    simp only at h1 h2 h3 h4 h5
    by_cases hi : i = a.length
    · subst hi
      simp [rmI]
      refine g2 _ _ (by simp) ?_
      simp
      refine oks_callz [16] .wide [.sl none 1 (encD cur) []] (r_trim none cur h2 (by omega)) (by simp) (by simp [h3]; rfl) (by simp; exact List.take_of_length_le (by simp [h3])) ?_
      rintro _ rfl
      refine oks_vc .wide ?_
      rw [h4, List.take_length]
      simp
      exact hK _ _ rfl (by simp [pD])
    · have hlt : i < a.length := by omega
      have hx : a[i] < 10000 := ha _ (List.getElem_mem hlt)
      have hwi : IntKind.i64.wrap ((i : Int) + 1) = (i : Int) + 1 := wrap_i64 (by omega)
      simp [rmI, hlt]
      refine vc_loop .wide (rmJ a b i) (fun z => z.1 ≤ b.length + 1 ∧ z.2.1 < 10000 ∧ OkLD z.2.2 ∧ z.2.2.length = a.length + b.length + 1 ∧ valD z.2.2 + z.2.1 * 10000 ^ (i + z.1) = valD cur + 10000 ^ i * (a[i] * valD (b.take z.1)) ∧ (∀ k, i + 1 + b.length ≤ k → k < a.length + b.length + 1 → z.2.2[k]? = some 0) ∧ (z.1 ≤ b.length → z.2.2[i + b.length]? = some 0) ∧ (z.1 = b.length + 1 → z.2.1 = 0)) (fun z => b.length + 1 - z.1)
        ⟨0, 0, cur⟩ ⟨by simp, by simp, h2, h3, by simp [valD], fun k k1 k2 => h5 k (by omega) k2, fun _ => h5 _ (by omega) (by omega), by simp⟩ (sub_iff (by simp [rmJ])) ?_
      rintro ⟨j, c, cr⟩ ⟨j1, j2, j3, j4, j5, j6, j7, j8⟩ Q' g1' g2'
      simp only at j1 j2 j3 j4 j5 j6 j7 j8
      by_cases hjb : j < b.length
      · have hy : b[j] < 10000 := hb _ (List.getElem_mem hjb)
        obtain ⟨k, hk⟩ : ∃ k, k = i + j := ⟨_, rfl⟩
        have hw1 : IntKind.i64.wrap ((i : Int) + (j : Int)) = (k : Int) := by rw [wrap_i64 (by omega)]; omega
        have hw2 : IntKind.i64.wrap ((j : Int) + 1) = (j : Int) + 1 := wrap_i64 (by omega)
        rw [← hk] at j5
        have hkl : k < cr.length := by omega
        have hd : cr[k] < 10000 := j3 _ (List.getElem_mem hkl)
        have hg : cr[k]? = some cr[k] := List.getElem?_eq_getElem hkl
        have hxy : a[i] * b[j] ≤ 9999 * 9999 := Nat.mul_le_mul (by omega) (by omega)
        have e1 := evi_add cr[k] c (by omega)
        have e2 := evi_mul a[i] b[j] (by omega)
        have e3 := evi_add (cr[k] + c) (a[i] * b[j]) (by omega)
        have e4 := evi_quoW (cr[k] + c + a[i] * b[j]) (by omega)
        have hvs := val_setD (v := (cr[k] + c + a[i] * b[j]) % 10000) hkl
        have hstep := mul_stepD j5 hvs
        have hq : (cr[k] + c + a[i] * b[j]) / 10000 < 10000 := by omega
        have hr : (cr[k] + c + a[i] * b[j]) % 10000 < 10000 := Nat.mod_lt _ (by decide)
        simp [rmJ, hjb, hw1, hg, show (k : Int) < (a.length : Int) + (b.length : Int) + 1 by omega, show k < a.length + b.length + 1 by omega, e1]
        refine vc_draw .wide rfl ?_
        simp [hlt, hjb, hw1, hw2, hg, e2, e3, e4, evi_remW, show (k : Int) < (a.length : Int) + (b.length : Int) + 1 by omega, show k < a.length + b.length + 1 by omega]
        refine g1' _ (j + 1, _, cr.set k ((cr[k] + c + a[i] * b[j]) % 10000)) ⟨by omega, hq, set_okD j3 hr, by simp [j4], ?_, fun k' k1 k2 => ?_, fun hj => ?_, fun hj => by simp only at hj; omega⟩ (by simp only; omega) (sub_iff (by simp [rmJ]))
        · simp only
          rw [show i + (j + 1) = k + 1 by omega, Nat.pow_succ, hstep, val_take_succD b j hjb, Nat.mul_add, Nat.mul_add, Nat.add_assoc]
          congr 2
          rw [hk, Nat.pow_add, Nat.mul_assoc, Nat.mul_left_comm a[i]]
        · simp only
          rw [List.getElem?_set_ne (by omega)]
          exact j6 k' k1 k2
        · simp only
          rw [List.getElem?_set_ne (by omega)]
          exact j7 (by omega)
      · by_cases hc0 : c = 0
        · subst hc0
          have hnext : valD cr = valD (a.take (i + 1)) * valD b := by
            rw [Nat.zero_mul, Nat.add_zero, List.take_of_length_le (by omega)] at j5
            rw [j5, h4, val_take_succD a i hlt, Nat.add_mul, Nat.mul_assoc]
          simp [rmJ, hjb]
          refine g2' _ _ (by simp) ?_
          simp [hwi]
          refine g1 _ (i + 1, cr) ⟨by omega, j3, j4, hnext, fun k k1 k2 => ?_⟩ (by simp only; omega) (sub_iff (by simp [rmI]))
          exact j6 k (by simp only at k1; omega) k2
        · have hjl : j = b.length := by
            rcases Nat.lt_or_ge j (b.length + 1) with h | h
            · omega
            · exact (hc0 (j8 (by omega))).elim
          obtain ⟨k, hk⟩ : ∃ k, k = i + j := ⟨_, rfl⟩
          have hw1 : IntKind.i64.wrap ((i : Int) + (j : Int)) = (k : Int) := by rw [wrap_i64 (by omega)]; omega
          have hw2 : IntKind.i64.wrap ((j : Int) + 1) = (j : Int) + 1 := wrap_i64 (by omega)
          have hkl : k < cr.length := by omega
          have hz := j7 (by omega)
          rw [show i + b.length = k by omega] at hz
          have hz0 : cr[k] = 0 := by rw [List.getElem?_eq_getElem hkl] at hz; exact Option.some.inj hz
          rw [← hk] at j5
          have e1 := evi_add 0 c (by omega)
          rw [Nat.zero_add, U_zero] at e1
          have e4 := evi_quoW c (by omega)
          have hvs := val_setD (v := c) hkl
          rw [hz0, Nat.mul_zero, Nat.add_zero] at hvs
          have hcm : c % 10000 = c := Nat.mod_eq_of_lt j2
          have hcd : c / 10000 = 0 := Nat.div_eq_of_lt j2
          simp [rmJ, hjb, show 0 < c by omega, hw1, hw2, hz, e1, e4, evi_remW, hcm, hcd, show (k : Int) < (a.length : Int) + (b.length : Int) + 1 by omega, show k < a.length + b.length + 1 by omega]
          refine g1' _ (j + 1, 0, cr.set k c) ⟨by omega, by simp, set_okD j3 j2, by simp [j4], ?_, fun k' k1 k2 => ?_, fun hj => by simp only at hj; omega, fun _ => rfl⟩ (by simp only; omega) (sub_iff (by simp [rmJ]))
          · simp only
            rw [Nat.zero_mul, Nat.add_zero, hvs, List.take_of_length_le (by omega)]
            rw [List.take_of_length_le (by omega)] at j5
            rw [← j5, Nat.mul_comm c]
          · simp only
            rw [List.getElem?_set_ne (by omega)]
            exact j6 k' k1 k2
end Go.Dl
