/- Contracts of value: ValidField, invalid, Prepare. Contracts of hornbeambook: SameValues, Fields. hornbeamlaw12.ValueBack, walked. hornbeamlaw12.ValueReplaces, walked. -/
import Derived.Test.YtjmhdfcmghmgjaaDoorA17
import Derived.Test.YtjmhdfcmghmgjaaDoorA16
import Derived.Test.YtjmhdfcmghmgjaaDoorA13
set_option linter.unusedVariables false
set_option linter.unusedSimpArgs false
set_option maxRecDepth 1000000
namespace Go.Dl
open Go.Proofs

theorem t_vfield (f : Fld) (hs : f.rep.num.length ≤ 100000) : PCall Tryd.prog 27 [.agg (encF f)] (· = .bool (validF f)) := by
  refine pcall_okz c_vfield (by simp [c_vfield]) fun x K hK => ?_
  refine ok_fst .wide ?_
  simp [c_vfield, encF]
  have no : validF f = false → K (.bool false) := fun h => hK _ _ rfl (by simp [h])
  refine ok_mid (fun _ : Unit => validF f = (validP f.rep && (decide (f.rep.kind = 0) || fitP f f.rep))) (fun _ => ⟨68, [(2, .p (.bool false)), (1, .ptr 1 7 0 0)], [(1, ⟨false, 7, .p [encF f]⟩)]⟩) ?_ ?_
  · rintro _ hv
    refine vc_ok .wide _ ?_
    simp [encF]
    refine oks_callz [] .wide [.agg (encV f.rep)] (t_valid f.rep hs) (by simp) (by simp; rfl) (by simp [encV]) ?_
    rintro _ rfl
    refine oks_vc .wide ?_
    by_cases h1 : validP f.rep = true
    · by_cases h2 : f.rep.kind = 0
      · simp [h1, h2]
        refine oks_skipc .wide (by simp) (oks_vc .wide ?_)
        simp
        exact hK _ _ rfl (by simp [hv, h1, h2])
      · simp [h1, h2, show (f.rep.kind == 0) = false by simpa using h2]
        refine oks_callz [] .wide [.agg (encF f), .agg (encV f.rep)] (t_fit f f.rep) (by simp) (by simp; rfl) (by simp [encF, encV]) ?_
        rintro _ rfl
        refine oks_vc .wide ?_
        simp
        exact hK _ _ rfl (by simp [hv, h1, h2])
    · simp [h1]
      refine oks_skipu .wide (by simp) (oks_vc .wide ?_)
      simp
      exact hK _ _ rfl (by simp [hv, h1])
  · refine vc_ok .wide _ ?_
    by_cases n1 : f.name.length < 1
    · simp [show (f.name.length : Int) < 1 by omega]
      exact no (by simp [validF, show ¬ 1 ≤ f.name.length by omega])
    · by_cases n2 : 60 < f.name.length
      · simp [show ¬ (f.name.length : Int) < 1 by omega, show (60 : Int) < (f.name.length : Int) by omega]
        exact no (by simp [validF, show ¬ f.name.length ≤ 60 by omega])
      · have m1 : ¬ (f.name.length : Int) < 1 := by omega
        have m2 : ¬ (60 : Int) < (f.name.length : Int) := by omega
        have m3 : 1 ≤ f.name.length := by omega
        have m4 : f.name.length ≤ 60 := by omega
        by_cases hk : f.kind = 1 ∨ f.kind = 2
        · by_cases hi : f.inv = 1 ∨ f.inv = 2 ∨ f.inv = 3
          · have hk' : (f.kind = 1 ∧ (f.kind == 1) = true ∧ (f.kind != 1) = false) ∨ (f.kind = 2 ∧ (f.kind == 1) = false ∧ (f.kind != 1) = true ∧ (f.kind != 2) = false) := by rcases hk with h | h <;> simp [h]
            have hi' : ((f.inv != 1) = false) ∨ ((f.inv != 1) = true ∧ (f.inv != 2) = false) ∨ ((f.inv != 1) = true ∧ (f.inv != 2) = true ∧ (f.inv != 3) = false) := by rcases hi with h | h | h <;> simp [h]
            by_cases he : f.kind = 1 ∧ f.vals ≠ []
            · have hl : 0 < f.vals.length := List.length_pos_iff.2 he.2
              have hf : validF f = false := by simp [validF, he.1, he.2]
              rcases hi' with i1 | ⟨i1, i2⟩ | ⟨i1, i2, i3⟩
              · simp [m1, m2, he.1, i1, hl]
                refine oks_skipc .wide (by simp) (oks_vc .wide ?_)
                simp
                exact no hf
              · simp [m1, m2, he.1, i1, i2, hl]
                refine oks_skipc .wide (by simp) (oks_vc .wide ?_)
                simp
                exact no hf
              · simp [m1, m2, he.1, i1, i2, i3, hl]
                refine oks_skipc .wide (by simp) (oks_vc .wide ?_)
                simp
                exact no hf
            · have hok : validF f = (declP f.vals && validP f.rep && (decide (f.rep.kind = 0) || fitP f f.rep)) := by
                have e1 : (decide (f.kind = 1) || decide (f.kind = 2)) = true := by simpa using hk
                have e2 : (decide (f.inv = 1) || decide (f.inv = 2) || decide (f.inv = 3)) = true := by simpa [or_assoc] using hi
                have e3 : (decide (f.kind = 1) && !decide (f.vals = [])) = false := by
                  cases h : (decide (f.kind = 1) && !decide (f.vals = [])) with
                  | false => rfl
                  | true => exfalso; apply he; simpa using h
                simp only [validF, e1, e2, e3, m3, m4, decide_true, Bool.and_true, Bool.true_and, Bool.not_false]
              have hcall : OkL [] := by intro d hd; simp at hd
              have key : ∀ (T : List (Nat × DV)), True := fun _ => trivial
              cases hd : declP f.vals with
              | true =>
                rw [hd, Bool.true_and] at hok
                have hdc := t_decl f.vals
                rw [hd] at hdc
                rcases hk' with ⟨c1, c2, c3⟩ | ⟨c1, c2, c3, c4⟩
                · have hnil : f.vals = [] := Classical.byContradiction fun h => he ⟨c1, h⟩
                  rcases hi' with i1 | ⟨i1, i2⟩ | ⟨i1, i2, i3⟩
                  all_goals
                    simp [m1, m2, c1, c2, c3, hnil, *]
                    refine oks_callz [] .wide [.sl none 1 (encS f.vals) []] hdc (by simp) (by simp; rfl) (by simp [hnil]) ?_
                    rintro _ rfl
                    refine oks_vc .wide ?_
                    simp
                    exact AtC.mk () (by first | exact hok | trivial) (sub_iff (by simp [encF, c1, hnil]))
                · rcases hi' with i1 | ⟨i1, i2⟩ | ⟨i1, i2, i3⟩
                  all_goals
                    simp [m1, m2, c1, c2, c3, c4, *]
                    refine oks_callz [] .wide [.sl none 1 (encS f.vals) []] hdc (by simp) (by simp; rfl) (by simp) ?_
                    rintro _ rfl
                    refine oks_vc .wide ?_
                    simp
                    exact AtC.mk () (by first | exact hok | trivial) (sub_iff (by simp [encF, c1]))
              | false =>
                rw [hd] at hok
                have hf : validF f = false := by rw [hok]; rfl
                have hdc := t_decl f.vals
                rw [hd] at hdc
                rcases hk' with ⟨c1, c2, c3⟩ | ⟨c1, c2, c3, c4⟩
                · have hnil : f.vals = [] := Classical.byContradiction fun h => he ⟨c1, h⟩
                  rw [hnil] at hd
                  exact absurd hd (by decide)
                · rcases hi' with i1 | ⟨i1, i2⟩ | ⟨i1, i2, i3⟩
                  all_goals
                    simp [m1, m2, c1, c2, c3, c4, *]
                    refine oks_callz [] .wide [.sl none 1 (encS f.vals) []] hdc (by simp) (by simp; rfl) (by simp) ?_
                    rintro _ rfl
                    refine oks_vc .wide ?_
                    simp
                    exact no hf
          · have i1 : (f.inv != 1) = true := by simp; exact fun h => hi (.inl h)
            have i2 : (f.inv != 2) = true := by simp; exact fun h => hi (.inr (.inl h))
            have i3 : (f.inv != 3) = true := by simp; exact fun h => hi (.inr (.inr h))
            have hf : validF f = false := by simp at i1 i2 i3; simp [validF, i1, i2, i3]
            rcases hk with c1 | c1
            · simp [m1, m2, c1, i1, i2, i3]
              exact no hf
            · simp [m1, m2, c1, i1, i2, i3]
              exact no hf
        · have c1 : (f.kind != 1) = true := by simp; exact fun h => hk (.inl h)
          have c2 : (f.kind != 2) = true := by simp; exact fun h => hk (.inr h)
          simp [m1, m2, c1, c2]
          exact no (by simp at c1 c2; simp [validF, c1, c2])

def invP (f : Fld) (v : Val) : Option Val := if f.inv = 3 then some zeroV else if f.inv = 2 ∧ f.kind = 2 ∧ v.kind = 2 then some v else none
def invR (o : Option Val) : PV := .tup [.agg (encV (o.getD zeroV)), .bool o.isSome]
theorem t_vinv (f : Fld) (v : Val) : PCall Tryd.prog 55 [.agg (encF f), .agg (encV v)] (· = invR (invP f v)) := by
  refine pcall_vcz c_vinv (by simp [c_vinv]) fun x K hK => ?_
  by_cases h3 : f.inv = 3
  · simp [c_vinv, encF, encV, h3]
    exact hK _ _ rfl (by simp [invR, invP, h3, encV, zeroV])
  · have e3 : (f.inv == 3) = false := by simpa using h3
    by_cases h2 : f.inv = 2
    · by_cases hk : f.kind = 2
      · by_cases hv : v.kind = 2
        · simp [c_vinv, encF, encV, h3, e3, h2, hk, hv]
          exact hK _ _ rfl (by simp [invR, invP, h3, h2, hk, hv, encV])
        · simp [c_vinv, encF, encV, h3, e3, h2, hk, hv, show (v.kind == 2) = false by simpa using hv]
          exact hK _ _ rfl (by simp [invR, invP, h3, h2, hk, hv, encV, zeroV])
      · simp [c_vinv, encF, encV, h3, e3, h2, hk, show (f.kind == 2) = false by simpa using hk]
        exact hK _ _ rfl (by simp [invR, invP, h3, h2, hk, encV, zeroV])
    · simp [c_vinv, encF, encV, h3, e3, h2, show (f.inv == 2) = false by simpa using h2]
      exact hK _ _ rfl (by simp [invR, invP, h3, h2, encV, zeroV])

/-- a value made ready; none, if it is refused -/
def prep1 (f : Fld) (v : Val) : Option Val := match (if v.kind ≠ 0 ∧ fitP f v = false then invP f v else some v) with
  | none => none
  | some w => some (if w.kind = 0 then f.rep else w)
def prepL : List Fld → List Val → Option (List Val)
  | f :: fs, v :: vs => match prep1 f v with
    | none => none
    | some w => (prepL fs vs).map (w :: ·)
  | _, _ => some []
def okL2 : List Fld → List Val → Bool
  | f :: fs, v :: vs => validF f && validP v && okL2 fs vs
  | _, _ => true
def prepR (fs : List Fld) (row : List Val) : PV :=
  if fs.length = row.length then
    if okL2 fs row then match prepL fs row with
      | none => .tup [.sl none 3 [] [], .bool false, .int .i64 0]
      | some l => .tup [.sl none 3 (encVs l) [], .bool true, .int .i64 0]
    else .tup [.sl none 3 [] [], .bool false, .int .i64 1]
  else .tup [.sl none 3 [] [], .bool false, .int .i64 16]
/-- values in an object of their own, or none yet -/
def pvObj (k : Nat) : List Val → DV × List (Nat × Ob)
  | [] => (.p (.sl (some true) 0 [] []), [])
  | d :: r => (.own k 3 0 (d :: r).length (d :: r).length, [(k, ⟨false, 3, .p (encVs (d :: r))⟩)])

def prA (fs : List Fld) (row : List Val) (i : Nat) : St := ⟨83, [(21, .p (.int .i64 (i : Int))), (20, .p (.int .i64 (row.length : Int))), (19, .p (.sl none 3 (encVs row) [])), (4, .p (.sl (some true) 0 [] [])), (5, .p (.bool false)), (6, .p (.int .i64 0)), (1, .p (.sl none 3 (encVs row) [])), (0, .p (.sl none 7 (encFs fs) []))], []⟩
def prB (fs : List Fld) (row : List Val) (y : Nat × List Val) : St := ⟨83, [(40, .p (.int .i64 (y.1 : Int))), (39, .p (.int .i64 (row.length : Int))), (38, .p (.sl none 3 (encVs row) [])), (10, .p (.bool false)), (9, (pvObj 79 y.2).1), (1, .p (.sl none 3 (encVs row) [])), (0, .p (.sl none 7 (encFs fs) []))], (pvObj 79 y.2).2⟩
theorem okL2_drop {fs : List Fld} {row : List Val} {i : Nat} (h1 : i < fs.length) (h2 : i < row.length) : okL2 (fs.drop i) (row.drop i) = (validF fs[i] && validP row[i] && okL2 (fs.drop (i + 1)) (row.drop (i + 1))) := by
  rw [List.drop_eq_getElem_cons h1, List.drop_eq_getElem_cons h2]; rfl
theorem prepL_drop {fs : List Fld} {row : List Val} {i : Nat} (h1 : i < fs.length) (h2 : i < row.length) : prepL (fs.drop i) (row.drop i) = match prep1 fs[i] row[i] with
    | none => none
    | some w => (prepL (fs.drop (i + 1)) (row.drop (i + 1))).map (w :: ·) := by
  rw [List.drop_eq_getElem_cons h1, List.drop_eq_getElem_cons h2]; rfl

set_option maxHeartbeats 4000000 in
theorem t_vprep (fs : List Fld) (row : List Val) (hl : fs.length ≤ 100000) (hf : ∀ f, f ∈ fs → f.rep.num.length ≤ 100000) (hr : ∀ v, v ∈ row → v.num.length ≤ 100000) :
    PCall Tryd.prog 28 [.sl none 7 (encFs fs) [], .sl none 3 (encVs row) []] (· = prepR fs row) := by
  refine pcall_okz c_vprep (by simp [c_vprep]) fun x K hK => ?_
  refine ok_fst .wide ?_
  simp [c_vprep]
  refine ok_scope ?_
  refine ok_fst .wide ?_
  by_cases hlen : fs.length = row.length
  · simp [hlen]
    rw [prepR, if_pos hlen] at hK
    refine ok_mid (fun _ : Unit => okL2 fs row = true) (fun _ => prA fs row row.length) ?_ ?_
    · rintro _ hok
      rw [if_pos hok] at hK
      refine ok_fst .wide ?_
      simp [prA]
      refine ok_fst .wide ?_
      simp
      refine ok_fst .wide ?_
      simp
      refine ok_mid (fun o : Option (List Val) => prepL fs row = o) (fun o => match o with
        | none => ⟨83, [(10, .p (.bool true))], []⟩
        | some l => ⟨83, [(10, .p (.bool false)), (9, (pvObj 79 l).1)], (pvObj 79 l).2⟩) ?_ ?_
      · rintro o ho
        rw [ho] at hK
        refine vc_ok .wide _ ?_
        cases o with
        | none =>
          simp
          exact hK _ _ rfl (by simp)
        | some l =>
          cases l with
          | nil =>
            simp [pvObj]
            exact hK _ _ rfl (by simp [encVs])
          | cons d r =>
            simp [pvObj]
            exact hK _ _ rfl (by simp [encVs]; exact List.take_of_length_le (by simp))
      · refine ok_fst .wide ?_
        simp
        refine ok_blk ?_
        refine ok_lp (prB fs row) (fun y => y.1 ≤ row.length ∧ y.2.length = y.1 ∧ prepL fs row = (prepL (fs.drop y.1) (row.drop y.1)).map (y.2 ++ ·)) (fun y => row.length - y.1) (0, []) ⟨by simp, by simp, by simp⟩ (sub_iff (by simp [prB, pvObj])) ?_
        rintro ⟨i, acc⟩ ⟨h1, h2, h3⟩ Q k1 k2
        simp only at h1 h2 h3
        refine ok_fst .wide ?_
        by_cases hi : i = row.length
        · have hpl : prepL fs row = some acc := by
            rw [h3, hi, List.drop_length]
            cases List.drop row.length fs <;> simp [prepL]
          simp [prB, hi]
          refine ok_fst .wide ?_
          simp
          refine k2 _ _ (by simp) ?_
          simp
          exact AtC.mk (some acc) hpl (by cases acc <;> exact sub_iff (by simp [pvObj]))
        · have hlt : i < row.length := by omega
          have hlf : i < fs.length := by omega
          have hw : IntKind.i64.wrap ((i : Int) + 1) = (i : Int) + 1 := wrap_i64 (by omega)
          rw [prepL_drop hlf hlt] at h3
          obtain ⟨f, hfe⟩ : ∃ f, f = fs[i] := ⟨_, rfl⟩
          obtain ⟨v, hve⟩ : ∃ v, v = row[i] := ⟨_, rfl⟩
          have hge : (encFs fs)[i]? = some (encF f) := by simp [hlf, hfe]
          have hgv : (encVs row)[i]? = some (encV v) := by simp [hlt, hve]
          rw [← hfe, ← hve] at h3
          have base : ∀ (b : Bool), True := fun _ => trivial
          simp [prB, hlt]
          refine ok_fst .wide ?_
          simp
          refine ok_mid (fun w : Val => prep1 f v = some w) (fun w => ⟨83, [(40, .p (.int .i64 (i : Int))), (39, .p (.int .i64 (row.length : Int))), (38, .p (.sl none 3 (encVs row) [])), (10, .p (.bool false)), (9, (pvObj 79 (acc ++ [w])).1), (1, .p (.sl none 3 (encVs row) [])), (0, .p (.sl none 7 (encFs fs) []))], (pvObj 79 (acc ++ [w])).2⟩) ?_ ?_
          · rintro w hw1
            rw [hw1] at h3
            refine vc_ok .wide _ ?_
            simp [hw]
            refine k1 _ (i + 1, acc ++ [w]) ⟨by simp only; omega, by simp [h2], ?_⟩ (by simp only; omega) (sub_iff (by cases acc <;> simp [prB, pvObj]))
            simp only
            rw [h3]
            cases prepL (fs.drop (i + 1)) (row.drop (i + 1)) <;> simp
          · refine ok_blk ?_
            refine ok_fst .wide ?_
            simp [hlt, ← hve, encV]
            refine ok_mid (fun w : Val => prep1 f v = some (if w.kind = 0 then f.rep else w)) (fun w => ⟨83, [(11, .p (.int .i64 (i : Int))), (12, .ptr 12 3 0 0), (40, .p (.int .i64 (i : Int))), (39, .p (.int .i64 (row.length : Int))), (38, .p (.sl none 3 (encVs row) [])), (10, .p (.bool false)), (9, (pvObj 79 acc).1), (1, .p (.sl none 3 (encVs row) [])), (0, .p (.sl none 7 (encFs fs) []))], (12, ⟨false, 3, .p [encV w]⟩) :: (pvObj 79 acc).2⟩) ?_ ?_
            · rintro w hw1
              refine ok_mid (fun u : Val => prep1 f v = some u) (fun u => ⟨83, [(12, .ptr 12 3 0 0), (40, .p (.int .i64 (i : Int))), (39, .p (.int .i64 (row.length : Int))), (38, .p (.sl none 3 (encVs row) [])), (10, .p (.bool false)), (9, (pvObj 79 acc).1), (1, .p (.sl none 3 (encVs row) [])), (0, .p (.sl none 7 (encFs fs) []))], (12, ⟨false, 3, .p [encV u]⟩) :: (pvObj 79 acc).2⟩) ?_ ?_
              · rintro u hu
                refine vc_ok .wide _ ?_
                have hal : acc.length ≤ 100000 := by omega
                cases acc with
                | nil =>
                  simp [pvObj, encV, maxLen_eq]
                  exact AtC.mk u hu (sub_iff (by simp [pvObj, encVs, encV]))
                | cons d r =>
                  simp at hal
                  simp [pvObj, encV, maxLen_eq, show (r.length + 1 + 1) * 40 ≤ 140737488355328 by omega, show r.length + 1 + 1 ≤ 9223372036854775807 by omega]
                  exact AtC.mk u hu (sub_iff (by simp [pvObj, encVs, encV]; exact List.take_of_length_le (by simp)))
              · refine vc_ok .wide _ ?_
                by_cases h0 : w.kind = 0
                · rw [if_pos h0] at hw1
                  cases acc <;> simp [pvObj, encV, h0, hlf, ← hfe, encF] <;> exact AtC.mk f.rep hw1 (sub_iff (by simp [pvObj, encV]))
                · rw [if_neg h0] at hw1
                  cases acc <;> simp [pvObj, encV, h0, show (w.kind == 0) = false by simpa using h0] <;> exact AtC.mk w hw1 (sub_iff (by simp [pvObj, encV]))
            · refine ok_fst .wide ?_
              by_cases hv0 : v.kind = 0
              · simp [encV, hv0]
                refine vc_draw .wide rfl ?_
                simp
                refine vc_ok .wide _ ?_
                simp
                exact AtC.mk v (by simp [prep1, hv0]) (sub_iff (by cases acc <;> simp [pvObj, encV, hv0]))
              · have hfit := t_fit f v
                have hv0' : (v.kind != 0) = true := by simpa using hv0
                have hv0'' : (v.kind == 0) = false := by simpa using hv0
                simp [encV, hv0, hv0']
                refine vc_draw .wide rfl ?_
                simp [hv0, hv0', hlf, ← hfe]
                refine dcall_pz [.agg (encF f), .agg (encV v)] _ hfit (by simp; rfl) (by simp [encF, encV]) ?_
                cases hfv : fitP f v with
                | true =>
                  simp
                  refine vc_ok .wide _ ?_
                  simp
                  exact AtC.mk v (by simp [prep1, hfv]) (sub_iff (by cases acc <;> simp [pvObj, encV]))
                | false =>
                  have hinv := t_vinv f v
                  simp
                  refine ok_cond (t := true) (by simp) (fun _ => ?_) (fun h => by cases h)
                  refine ok_fst .wide ?_
                  simp
                  refine ok_fst .wide ?_
                  simp
                  refine vc_drawS .wide [(9, 12)] rfl ?_
                  simp [hlf, ← hfe]
                  refine dcall_pz [.agg (encF f), .agg (encV v)] _ hinv (by simp; rfl) (by simp [encF, encV]) ?_
                  cases hiv : invP f v with
                  | none =>
                    simp [invR, encV]
                    refine vc_ok .wide _ ?_
                    simp
                    refine k2 _ _ (by simp) ?_
                    simp
                    refine AtC.mk none ?_ (sub_iff (by simp))
                    rw [h3]
                    simp [prep1, hv0, hfv, hiv]
                  | some w =>
                    simp [invR, encV]
                    refine vc_ok .wide _ ?_
                    simp
                    exact AtC.mk w (by simp [prep1, hv0, hfv, hiv]) (sub_iff (by cases acc <;> simp [pvObj, encV]))
    · refine vc_ok .wide _ ?_
      simp
      refine vc_loop .wide (prA fs row) (fun i => i ≤ row.length ∧ okL2 fs row = okL2 (fs.drop i) (row.drop i)) (fun i => row.length - i) 0 ⟨by simp, by simp⟩ (sub_iff (by simp [prA])) ?_
      rintro i ⟨h1, h2⟩ Q k1 k2
      by_cases hi : i = row.length
      · subst hi
        rw [List.drop_length] at h2
        simp [prA]
        refine k2 _ _ (by simp) ?_
        simp
        exact AtC.mk () (by rw [h2]; cases List.drop row.length fs <;> rfl) (sub_iff (by simp [prA]))
      · have hlt : i < row.length := by omega
        have hlf : i < fs.length := by omega
        have hw : IntKind.i64.wrap ((i : Int) + 1) = (i : Int) + 1 := wrap_i64 (by omega)
        rw [okL2_drop hlf hlt] at h2
        have hvf := t_vfield fs[i] (hf _ (List.getElem_mem hlf))
        have hvv := t_valid row[i] (hr _ (List.getElem_mem hlt))
        simp [prA, hlt, hlf, encF, encV]
        refine oks_callz [] .wide [.agg (encF fs[i])] hvf (by simp) (by simp; rfl) (by simp [encF]) ?_
        rintro _ rfl
        refine oks_vc .wide ?_
        cases hb : validF fs[i] with
        | false =>
          simp
          refine oks_skipc .wide (by simp) (oks_vc .wide ?_)
          simp
          refine k2 _ _ (by simp) ?_
          simp
          exact hK _ _ rfl (by rw [h2, hb]; simp)
        | true =>
          simp
          refine oks_callz [] .wide [.agg (encV row[i])] hvv (by simp) (by simp; rfl) (by simp [encV]) ?_
          rintro _ rfl
          refine oks_vc .wide ?_
          cases hc : validP row[i] with
          | false =>
            simp
            refine k2 _ _ (by simp) ?_
            simp
            exact hK _ _ rfl (by rw [h2, hb, hc]; simp)
          | true =>
            simp [hw]
            exact k1 _ (i + 1) ⟨by omega, by rw [h2, hb, hc]; simp⟩ (by omega) (sub_iff (by simp [prA]))
  · simp [hlen, show ((fs.length : Int) != (row.length : Int)) = true by simp; omega]
    exact hK _ _ rfl (by simp [prepR, hlen])
end Go.Dl
set_option linter.unusedVariables false
set_option linter.unusedSimpArgs false
set_option maxRecDepth 1000000
namespace Go.Dl
open Go.Proofs

def eqV (v w : Val) : Bool := v.kind == w.kind && (v.num == w.num && v.cat == w.cat)
theorem eqV_iff (v w : Val) : eqV v w = true ↔ v = w := by
  obtain ⟨a, b, c⟩ := v
  obtain ⟨a', b', c'⟩ := w
  simp [eqV]
theorem eqV_refl (v : Val) : eqV v v = true := (eqV_iff v v).2 rfl
def sameL : List Val → List Val → Bool
  | [], [] => true
  | v :: a, w :: b => eqV v w && sameL a b
  | _, _ => false
theorem sameL_iff : ∀ (a b : List Val), sameL a b = true ↔ a = b
  | [], [] => by simp [sameL]
  | [], _ :: _ => by simp [sameL]
  | _ :: _, [] => by simp [sameL]
  | v :: a, w :: b => by simp [sameL, eqV_iff, sameL_iff a b]
theorem sameL_len : ∀ {a b : List Val}, a.length ≠ b.length → sameL a b = false
  | [], [], h => by simp at h
  | [], _ :: _, _ => rfl
  | _ :: _, [], _ => rfl
  | v :: a, w :: b, h => by rw [sameL, sameL_len (a := a) (b := b) (by simpa using h)]; simp
theorem r_samevals (a b : List Val) : PCall Tryd.prog 29 [.sl none 3 (encVs a) [], .sl none 3 (encVs b) []] (· = .bool (sameL a b)) := by
  refine PCall.lens fun hlen => ?_
  have hlen : a.length ≤ 9223372036854775807 := by have := hlen (.sl none 3 (encVs a) []) (by simp); simpa [PV.lenok] using this
  refine pcall_vcz c_samevals (by simp [c_samevals]) fun x K hK => ?_
  by_cases hl : a.length = b.length
  · simp [c_samevals, hl]
    refine vc_loop .wide (fun i : Nat => ⟨27, [(5, .p (.int .i64 (i : Int))), (4, .p (.bool false)), (0, .p (.sl none 3 (encVs a) [])), (1, .p (.sl none 3 (encVs b) []))], []⟩)
      (fun i => i ≤ a.length ∧ sameL a b = sameL (a.drop i) (b.drop i)) (fun i => a.length - i) 0 ⟨by simp, by simp⟩ (sub_iff (by simp)) ?_
    rintro i ⟨h1, h2⟩ Q k1 k2
    by_cases hi : i = a.length
    · subst hi
      simp [hl]
      refine k2 _ _ (by simp) ?_
      simp
      exact hK _ _ rfl (by rw [h2, List.drop_length, hl, List.drop_length]; simp [sameL])
    · have hlt : i < a.length := by omega
      have hlt' : i < b.length := by omega
      have hw : IntKind.i64.wrap ((i : Int) + 1) = (i : Int) + 1 := wrap_i64 (by omega)
      rw [List.drop_eq_getElem_cons hlt, List.drop_eq_getElem_cons hlt', sameL] at h2
      simp [hlt', hl]
      refine vc_draw .wide rfl ?_
      simp [hlt, hlt']
      cases he : eqV a[i] b[i] with
      | true =>
        have he' := he
        simp only [eqV] at he'
        simp [encV, he', hw, -Bool.and_eq_true, -beq_iff_eq]
        exact k1 _ (i + 1) ⟨by omega, by rw [h2, he]; simp⟩ (by omega) (sub_iff (by simp))
      | false =>
        have he' := he
        simp only [eqV] at he'
        simp [encV, he']
        refine k2 _ _ (by simp) ?_
        simp
        exact hK _ _ rfl (by rw [h2, he]; simp)
  · simp [c_samevals, show ((a.length : Int) != (b.length : Int)) = true by simp; omega]
    exact hK _ _ rfl (by rw [sameL_len hl]; simp)

def strI (s : List UInt8) : List Int := [1, (s.length : Int)]
theorem strI_nn (s : List UInt8) : ∀ x, x ∈ strI s → 0 ≤ x := by intro x hx; simp [strI] at hx; omega
theorem roomF_strI (room : Int) (s : List UInt8) (h : 0 ≤ roomF room (strI s)) : roomF room (strI s) ≤ room - 1 := by
  unfold strI at h ⊢
  rw [roomF] at h ⊢
  by_cases c2 : room < 0 ∨ room < 1
  · rw [if_pos c2] at h; omega
  · rw [if_neg c2] at h ⊢
    exact (roomF_each _ _ (by intro x hx; simp at hx; omega) h).2
def strsF (room : Int) : List (List UInt8) → Int
  | [] => room
  | s :: r => if 0 ≤ room then strsF (roomF room (strI s)) r else room
def fldI (f : Fld) : List Int := [4, (f.name.length : Int), (f.rep.num.length : Int), (f.rep.cat.length : Int)]
theorem fldI_nn (f : Fld) : ∀ x, x ∈ fldI f → 0 ≤ x := by intro x hx; simp [fldI] at hx; omega
def fieldsF (room : Int) : List Fld → Int
  | [] => room
  | f :: r => if 0 ≤ room then fieldsF (strsF (roomF room (fldI f)) f.vals) r else room
def fieldsB (l : List Fld) : Bool := decide (0 ≤ fieldsF 2000 l)
theorem strsF_le : ∀ (l : List (List UInt8)) (room : Int), -9223372036854775808 ≤ room → (strsF room l ≤ room ∨ strsF room l = -1) ∧ -9223372036854775808 ≤ strsF room l
  | [], room, h => ⟨.inl (Int.le_refl _), h⟩
  | s :: r, room, h => by
    unfold strsF
    split
    · have h1 := roomF_le (strI s) room (strI_nn s) h
      have := strsF_le r (roomF room (strI s)) h1.2
      omega
    · exact ⟨.inl (Int.le_refl _), h⟩
theorem strsF_each : ∀ (l : List (List UInt8)) (room : Int), 0 ≤ strsF room l → strsF room l ≤ room ∧ ∀ s, s ∈ l → (s.length : Int) ≤ room
  | [], room, h => ⟨Int.le_refl _, by simp⟩
  | s :: r, room, h => by
    unfold strsF at h ⊢
    by_cases c : 0 ≤ room
    · rw [if_pos c] at h ⊢
      obtain ⟨h1, h2⟩ := strsF_each r _ h
      obtain ⟨h3, h4⟩ := roomF_each (strI s) room (strI_nn s) (by omega)
      refine ⟨by omega, fun t ht => ?_⟩
      rcases List.mem_cons.1 ht with rfl | ht
      · exact h3 _ (by simp [strI])
      · have := h2 t ht; omega
    · rw [if_neg c] at h; omega
theorem fieldsF_each : ∀ (l : List Fld) (room : Int), 0 ≤ fieldsF room l → 4 * (l.length : Int) ≤ room ∧ ∀ f, f ∈ l → (f.rep.num.length : Int) ≤ room ∧ (f.rep.cat.length : Int) ≤ room ∧ (f.name.length : Int) ≤ room
  | [], room, h => ⟨by simpa [fieldsF] using h, by simp⟩
  | f :: r, room, h => by
    unfold fieldsF at h
    by_cases c : 0 ≤ room
    · rw [if_pos c] at h
      obtain ⟨h1, h2⟩ := fieldsF_each r _ h
      have h0 : 0 ≤ strsF (roomF room (fldI f)) f.vals := by
        have : (0 : Int) ≤ 4 * (r.length : Int) := by omega
        omega
      obtain ⟨h3, _⟩ := strsF_each f.vals _ h0
      have h4 : 0 ≤ roomF room (fldI f) := by omega
      obtain ⟨h5, h6⟩ := roomF_each (fldI f) room (fldI_nn f) h4
      have h7 : roomF room (fldI f) ≤ room - 4 := by
        unfold fldI at h4 ⊢
        rw [roomF] at h4 ⊢
        by_cases c2 : room < 0 ∨ room < 4
        · rw [if_pos c2] at h4; omega
        · rw [if_neg c2] at h4 ⊢
          exact (roomF_each _ _ (by intro x hx; simp at hx; omega) h4).2
      refine ⟨by simp; omega, fun g hg => ?_⟩
      rcases List.mem_cons.1 hg with rfl | hg
      · exact ⟨h5 _ (by simp [fldI]), h5 _ (by simp [fldI]), h5 _ (by simp [fldI])⟩
      · have := h2 g hg; omega
    · rw [if_neg c] at h; omega
theorem fieldsB_each {l : List Fld} (h : fieldsB l = true) : l.length ≤ 500 ∧ ∀ f, f ∈ l → f.rep.num.length ≤ 2000 ∧ f.rep.cat.length ≤ 2000 ∧ f.name.length ≤ 2000 := by
  obtain ⟨h1, h2⟩ := fieldsF_each l 2000 (by simpa [fieldsB] using h)
  refine ⟨by omega, fun f hf => ?_⟩
  have := h2 f hf
  omega

def bfI (fs : List Fld) (y : Nat × Int) : St := ⟨67, [(4, .p (.int .i64 (y.1 : Int))), (3, .p (.int .i64 y.2)), (2, .p (.bool false)), (0, .p (.sl none 7 (encFs fs) []))], []⟩
def bfJ (fs : List Fld) (i : Nat) (y : Nat × Int) : St := ⟨67, [(5, .p (.int .i64 (y.1 : Int))), (4, .p (.int .i64 (i : Int))), (3, .p (.int .i64 y.2)), (2, .p (.bool false)), (0, .p (.sl none 7 (encFs fs) []))], []⟩
set_option maxHeartbeats 2000000 in
theorem r_fields (fs : List Fld) : PCall Tryd.prog 26 [.sl none 7 (encFs fs) []] (· = .bool (fieldsB fs)) := by
  refine PCall.lens fun hlen => ?_
  have hlen : fs.length ≤ 9223372036854775807 := by simpa [PV.lenok] using hlen
  refine pcall_okz c_bkfields (by simp [c_bkfields]) fun x K hK => ?_
  refine ok_fst .wide ?_
  simp [c_bkfields]
  refine ok_fst .wide ?_
  simp
  refine ok_mid (fun n : Int => n = fieldsF 2000 fs) (fun n => ⟨67, [(3, .p (.int .i64 n))], []⟩) ?_ ?_
  · rintro n hn
    refine vc_ok .wide _ ?_
    simp
    exact hK _ _ rfl (by rw [fieldsB, ← hn]; simp)
  · refine ok_fst .wide ?_
    simp
    refine ok_blk ?_
    refine ok_lp (bfI fs) (fun y => y.1 ≤ fs.length ∧ -9223372036854775808 ≤ y.2 ∧ y.2 ≤ 2000 ∧ fieldsF y.2 (fs.drop y.1) = fieldsF 2000 fs) (fun y => fs.length - y.1) (0, 2000) ⟨by simp, by simp, by simp, by simp⟩ (sub_iff (by simp [bfI])) ?_
    rintro ⟨i, rm⟩ ⟨h1, h2, h3, h4⟩ Q k1 k2
    simp only at h1 h2 h3 h4
    refine ok_fst .wide ?_
    by_cases hi : i = fs.length
    · rw [hi, List.drop_length] at h4
      simp [bfI, hi]
      refine k2 _ _ (by simp) ?_
      simp
      exact AtC.mk rm h4 (sub_iff (by simp))
    · have hlt : i < fs.length := by omega
      have hw : IntKind.i64.wrap ((i : Int) + 1) = (i : Int) + 1 := wrap_i64 (by omega)
      rw [List.drop_eq_getElem_cons hlt, fieldsF] at h4
      by_cases c1 : 0 ≤ rm
      · rw [if_pos c1] at h4
        obtain ⟨f, hfe⟩ : ∃ f, f = fs[i] := ⟨_, rfl⟩
        rw [← hfe] at h4
        have hroom := r_room rm (fldI f) ⟨by omega, by omega⟩ (fldI_nn _) (by simp [fldI])
        have hle := roomF_le (fldI f) rm (fldI_nn _) h2
        simp [bfI, hlt, c1]
        refine ok_mid (fun n : Int => n = strsF (roomF rm (fldI f)) f.vals) (fun n => bfI fs (i, n)) ?_ ?_
        · rintro n hn
          have hle2 := strsF_le f.vals (roomF rm (fldI f)) hle.2
          refine vc_ok .wide _ ?_
          simp [bfI, hw]
          exact k1 _ (i + 1, n) ⟨by simp only; omega, by simp only; omega, by simp only; omega, by rw [hn]; exact h4⟩ (by simp only; omega) (sub_iff (by simp [bfI]))
        · refine ok_blk ?_
          refine ok_fst .wide ?_
          simp
          refine vc_draw .wide rfl ?_
          simp [hlt, ← hfe, encF]
          refine dcall_pz [.int .i64 rm, .sl none 1 (encI (fldI f)) []] _ hroom (by simp; rfl) (by simp [encI, fldI]) ?_
          simp
          refine ok_fst .wide ?_
          simp
          refine ok_blk ?_
          refine ok_lp (bfJ fs i) (fun y => y.1 ≤ f.vals.length ∧ -9223372036854775808 ≤ y.2 ∧ (y.2 ≤ 2000 ∧ y.1 ≤ 2001 ∧ (0 ≤ y.2 → (y.1 : Int) + y.2 ≤ 2000)) ∧ strsF y.2 (f.vals.drop y.1) = strsF (roomF rm (fldI f)) f.vals) (fun y => f.vals.length - y.1) (0, roomF rm (fldI f)) ⟨by simp, by simp only; omega, ⟨by simp only; omega, by simp, by simp only; omega⟩, by simp⟩ (sub_iff (by simp [bfJ])) ?_
          rintro ⟨j, rn⟩ ⟨j1, j2, j3, j4⟩ Q' l1 l2
          simp only at j1 j2 j3 j4
          refine ok_fst .wide ?_
          by_cases hj : j = f.vals.length
          · rw [hj, List.drop_length] at j4
            simp [bfJ, hj, hlt, ← hfe, encF]
            refine l2 _ _ (by simp) ?_
            simp
            exact AtC.mk rn j4 (sub_iff (by simp [bfI]))
          · have hjl : j < f.vals.length := by omega
            rw [List.drop_eq_getElem_cons hjl, strsF] at j4
            by_cases c2 : 0 ≤ rn
            · rw [if_pos c2] at j4
              have hroom2 := r_room rn (strI f.vals[j]) ⟨by omega, by omega⟩ (strI_nn _) (by simp [strI])
              have hle2 := roomF_le (strI f.vals[j]) rn (strI_nn _) j2
              have hle3 := roomF_strI rn f.vals[j]
              have hwj : IntKind.i64.wrap ((j : Int) + 1) = (j : Int) + 1 := wrap_i64 (by omega)
              simp [bfJ, hjl, hlt, ← hfe, encF, c2]
              refine vc_ok .wide _ ?_
              simp [hjl, hlt, ← hfe, encF]
              refine oks_callz [63] .wide [.int .i64 rn, .sl none 1 (encI (strI f.vals[j])) []] hroom2 (by simp) (by simp; rfl) (by simp [encI, strI]) ?_
              rintro _ rfl
              refine oks_vc .wide ?_
              simp [hwj]
              exact l1 _ (j + 1, roomF rn (strI f.vals[j])) ⟨by simp only; omega, by simp only; omega, ⟨by simp only; omega, by simp only; omega, by simp only; omega⟩, j4⟩ (by simp only; omega) (sub_iff (by simp [bfJ]))
            · rw [if_neg c2] at j4
              simp [bfJ, hjl, hlt, ← hfe, encF, c2]
              refine l2 _ _ (by simp) ?_
              simp
              exact AtC.mk rn j4 (sub_iff (by simp [bfI]))
      · rw [if_neg c1] at h4
        simp [bfI, hlt, c1]
        refine k2 _ _ (by simp) ?_
        simp
        exact AtC.mk rm h4 (sub_iff (by simp))
end Go.Dl
set_option linter.unusedVariables false
set_option linter.unusedSimpArgs false
set_option maxRecDepth 1000000
namespace Go.Dl
open Go.Proofs

theorem rOk_head (s : List UInt8) (h : rOk s = true) : s ≠ [63] ∧ (cutPre 58 s).2 = false := by
  have hA : isNum (rpA s) = true := by
    simp only [rOk, Bool.and_eq_true] at h
    exact h.1.1.1
  cases s with
  | nil => simp [cutPre]
  | cons c r =>
    refine ⟨?_, ?_⟩
    · rintro e
      rw [e] at hA
      revert hA; decide
    · by_cases hc : c = 58
      · subst hc
        exfalso
        have e : rpA (58 :: r) = 58 :: (cutC 47 r).1 := by
          simp [rpA, cutPre, cutC]
        rw [e] at hA
        simp [isNum, isDig] at hA
      · simp [cutPre, hc]
theorem vparse_num (s : List UInt8) (h : rOk s = true) : vparseP s = .tup [.agg (encV ⟨1, s, []⟩), .int .i64 0] := by
  obtain ⟨h1, h2⟩ := rOk_head s h
  unfold vparseP
  rw [if_neg h1, if_neg (by rw [h2]; decide), if_pos h]
/-- what is told of a value that can be is read as it was -/
theorem vparse_text (v : Val) (h : validP v = true) : vparseP (textP v) = .tup [.agg (encV v), .int .i64 0] := by
  obtain ⟨k, n, c⟩ := v
  by_cases h0 : k = 0
  · subst h0
    simp [validP] at h
    obtain ⟨rfl, rfl⟩ := h
    rfl
  · by_cases h2 : k = 2
    · subst h2
      have h' := h
      simp [validP] at h
      obtain ⟨rfl, hc⟩ := h
      have e : textP ⟨2, [], c⟩ = 58 :: c := by simp [textP, h']
      rw [e]
      unfold vparseP
      rw [if_neg (by simp), if_pos (by simp [cutPre]), if_neg (by simp [cutPre]; omega)]
      simp [cutPre]
    · have h' := h
      simp [validP, h0, h2, numOk] at h
      obtain ⟨⟨rfl, rfl⟩, hr⟩ := h
      have e : textP ⟨1, n, []⟩ = n := by simp [textP, h']
      rw [e]
      exact vparse_num n hr

set_option maxHeartbeats 4000000 in
theorem t_vback (v : Val) (s : List UInt8) : PCall Tryd.prog 4 [.agg (encV v), .str s] (· = .bool true) := by
  refine pcall_vcz c_vback (by simp [c_vback]) fun x K hK => ?_
  have yes : K (.bool true) := hK _ _ rfl (by simp)
  simp [c_vback, encV]
  refine oks_callz [13] .wide [.sl none 3 (encVs [v]) []] (r_row [v]) (by simp) (by simp; rfl) (by simp [encVs, encV]) ?_
  rintro _ ⟨b1, rfl, hb1⟩
  refine oks_vc .wide ?_
  cases b1 with
  | false =>
    simp
    refine oks_skipc .wide (by simp) (oks_vc .wide ?_)
    simp
    refine oks_callz [] .wide [] t_alive12 (by simp) (by simp; rfl) (by simp) ?_
    rintro _ rfl
    refine oks_vc .wide ?_
    simp
    exact yes
  | true =>
    have hv2 : v.num.length ≤ 200 := (hb1 rfl).2 v (by simp)
    by_cases hl : 300 < s.length
    · simp [show (300 : Int) < (s.length : Int) by omega]
      refine oks_skipc .wide (by simp) (oks_vc .wide ?_)
      simp
      refine oks_callz [] .wide [] t_alive12 (by simp) (by simp; rfl) (by simp) ?_
      rintro _ rfl
      refine oks_vc .wide ?_
      simp
      exact yes
    · simp [show ¬ (300 : Int) < (s.length : Int) by omega, show (s.length : Int) ≤ 300 by omega]
      refine oks_callz [] .wide [] t_alive12 (by simp) (by simp; rfl) (by simp) ?_
      rintro _ rfl
      refine oks_vc .wide ?_
      simp
      refine oks_callz [] .wide [.str s] (t_rparse s (by omega)) (by simp) (by simp; rfl) (by simp) ?_
      rintro _ rfl
      refine oks_vc .wide ?_
      by_cases hr : rOk s = true
      · have hrt : ratT (rval s).1 (rval s).2.1 (rval s).2.2 = s := by
          have := hr
          simp only [rOk, Bool.and_eq_true, decide_eq_true_eq] at this
          exact this.2.1
        have hrl := rval_len s hr
        have hval : validP ⟨1, s, []⟩ = true := by simp [validP, numOk, hr]
        rw [rparseP, if_pos hr]
        simp [encR, encRat]
        refine oks_callz [] .wide [encRat (rval s).1 (rval s).2.1 (rval s).2.2] (t_vof (rval s).1 (rval s).2.1 (rval s).2.2 (by omega) (by omega)) (by simp) (by simp; rfl) (by simp [encRat]) ?_
        rintro _ rfl
        refine oks_vc .wide ?_
        rw [hrt]
        simp [encV]
        refine oks_callz [] .wide [.str s] (t_vparse s (by omega)) (by simp) (by simp; rfl) (by simp) ?_
        rintro _ rfl
        refine oks_vc .wide ?_
        rw [vparse_num s hr]
        simp [encV]
        refine oks_callz [] .wide [.agg (encV ⟨1, s, []⟩)] (t_valid ⟨1, s, []⟩ (show s.length ≤ 100000 by omega)) (by simp) (by simp; rfl) (by simp [encV]) ?_
        rintro _ rfl
        refine oks_vc .wide ?_
        simp [hval]
        refine oks_callz [] .wide [.agg (encV v)] (t_valid v (by omega)) (by simp) (by simp; rfl) (by simp [encV]) ?_
        rintro _ rfl
        refine oks_vc .wide ?_
        by_cases hv : validP v = true
        · simp [hv]
          refine oks_callz [] .wide [.agg (encV v)] (t_vtext v (by omega)) (by simp) (by simp; rfl) (by simp [encV]) ?_
          rintro _ rfl
          refine oks_vc .wide ?_
          simp
          have htl : (textP v).length ≤ 100000 := by
            have h' := hv
            unfold textP
            rw [if_pos hv]
            split
            · simp
            · split
              · rename_i h0 h2
                simp [validP, h2] at h'
                simp
                omega
              · omega
          refine oks_callz [] .wide [.str (textP v)] (t_vparse (textP v) htl) (by simp) (by simp; rfl) (by simp) ?_
          rintro _ rfl
          refine oks_vc .wide ?_
          rw [vparse_text v hv]
          simp [encV]
          exact yes
        · simp [hv]
          refine oks_callz [] .wide [.agg (encV v)] (t_vtext v (by omega)) (by simp) (by simp; rfl) (by simp [encV]) ?_
          rintro _ rfl
          refine oks_vc .wide ?_
          simp [textP, hv]
          exact yes
      · rw [rparseP, if_neg hr]
        simp [encRat]
        refine oks_callz [] .wide [.agg (encV v)] (t_valid v (by omega)) (by simp) (by simp; rfl) (by simp [encV]) ?_
        rintro _ rfl
        refine oks_vc .wide ?_
        by_cases hv : validP v = true
        · simp [hv]
          refine oks_callz [] .wide [.agg (encV v)] (t_vtext v (by omega)) (by simp) (by simp; rfl) (by simp [encV]) ?_
          rintro _ rfl
          refine oks_vc .wide ?_
          simp
          have htl : (textP v).length ≤ 100000 := by
            have h' := hv
            unfold textP
            rw [if_pos hv]
            split
            · simp
            · split
              · rename_i h0 h2
                simp [validP, h2] at h'
                simp
                omega
              · omega
          refine oks_callz [] .wide [.str (textP v)] (t_vparse (textP v) htl) (by simp) (by simp; rfl) (by simp) ?_
          rintro _ rfl
          refine oks_vc .wide ?_
          rw [vparse_text v hv]
          simp [encV]
          exact yes
        · simp [hv]
          refine oks_callz [] .wide [.agg (encV v)] (t_vtext v (by omega)) (by simp) (by simp; rfl) (by simp [encV]) ?_
          rintro _ rfl
          refine oks_vc .wide ?_
          simp [textP, hv]
          exact yes
end Go.Dl
set_option linter.unusedVariables false
set_option linter.unusedSimpArgs false
set_option maxRecDepth 1000000
namespace Go.Dl
open Go.Proofs

theorem validP_zero : validP zeroV = true := by decide
theorem validP_kind0 {v : Val} (h : validP v = true) (h0 : v.kind = 0) : v = zeroV := by
  obtain ⟨k, n, c⟩ := v
  simp only at h0
  subst h0
  simp [validP] at h
  simp [zeroV, h]
theorem fitP_kind {f : Fld} {v : Val} (h : fitP f v = true) : v.kind ≠ 0 := by
  intro h0
  simp [fitP, h0] at h
theorem prep1_zero (f : Fld) : prep1 f zeroV = some f.rep := by simp [prep1, zeroV]
theorem okL2_zeros : ∀ (fs : List Fld), okL2 fs (List.replicate fs.length zeroV) = fs.all validF
  | [] => rfl
  | f :: fs => by
    rw [List.length_cons, List.replicate_succ, okL2, okL2_zeros fs, validP_zero, List.all_cons]
    simp
theorem prepL_zeros : ∀ (fs : List Fld), prepL fs (List.replicate fs.length zeroV) = some (fs.map Fld.rep)
  | [] => rfl
  | f :: fs => by
    rw [List.length_cons, List.replicate_succ, prepL, prep1_zero, prepL_zeros fs]
    rfl
/-- a value that is ready may be, and is ready -/
theorem prep1_twice {f : Fld} {v w : Val} (hf : validF f = true) (hv : validP v = true) (h : prep1 f v = some w) : validP w = true ∧ prep1 f w = some w := by
  have hrep : validP f.rep = true ∧ (f.rep.kind = 0 ∨ fitP f f.rep = true) := by
    simp only [validF, Bool.and_eq_true, Bool.or_eq_true, decide_eq_true_eq] at hf
    exact ⟨hf.1.2, hf.2⟩
  have rr : prep1 f f.rep = some f.rep := by
    rcases hrep.2 with h0 | h1
    · simp [prep1, h0]
    · have := fitP_kind h1
      simp [prep1, h1, this]
  unfold prep1 at h
  by_cases hc : v.kind ≠ 0 ∧ fitP f v = false
  · rw [if_pos hc] at h
    unfold invP at h
    by_cases h3 : f.inv = 3
    · rw [if_pos h3] at h
      simp [zeroV] at h
      rw [← h]
      exact ⟨hrep.1, rr⟩
    · rw [if_neg h3] at h
      by_cases h2 : f.inv = 2 ∧ f.kind = 2 ∧ v.kind = 2
      · rw [if_pos h2] at h
        simp [hc.1] at h
        subst h
        refine ⟨hv, ?_⟩
        unfold prep1
        rw [if_pos hc]
        unfold invP
        rw [if_neg h3, if_pos h2]
        simp [hc.1]
      · rw [if_neg h2] at h
        simp at h
  · rw [if_neg hc] at h
    simp at h
    by_cases h0 : v.kind = 0
    · rw [if_pos h0] at h
      rw [← h]
      exact ⟨hrep.1, rr⟩
    · rw [if_neg h0] at h
      subst h
      refine ⟨hv, ?_⟩
      unfold prep1
      rw [if_neg hc]
      simp [h0]
theorem prepL_twice : ∀ {fs : List Fld} {row l : List Val}, fs.length = row.length → okL2 fs row = true → prepL fs row = some l → fs.length = l.length ∧ okL2 fs l = true ∧ prepL fs l = some l
  | [], [], l, _, _, h => by simp [prepL] at h; subst h; exact ⟨rfl, rfl, rfl⟩
  | f :: fs, v :: vs, l, hl, hok, h => by
    simp only [okL2, Bool.and_eq_true] at hok
    rw [prepL] at h
    cases h1 : prep1 f v with
    | none => rw [h1] at h; simp at h
    | some w =>
      rw [h1] at h
      cases h2 : prepL fs vs with
      | none => rw [h2] at h; simp at h
      | some m =>
        rw [h2] at h
        simp at h
        subst h
        obtain ⟨a1, a2⟩ := prep1_twice hok.1.1 hok.1.2 h1
        obtain ⟨b1, b2, b3⟩ := prepL_twice (by simpa using hl) hok.2 h2
        refine ⟨by simp [b1], by simp [okL2, hok.1.1, a1, b2], ?_⟩
        rw [prepL, a2, b3]
        rfl
  | [], _ :: _, _, hl, _, _ => by simp at hl
  | _ :: _, [], _, hl, _, _ => by simp at hl
def fitL : List Fld → List Val → Bool
  | f :: fs, v :: vs => fitP f v && fitL fs vs
  | _, _ => true
theorem prepL_fits : ∀ {fs : List Fld} {row : List Val}, fs.length = row.length → fitL fs row = true → prepL fs row = some row
  | [], [], _, _ => rfl
  | f :: fs, v :: vs, hl, h => by
    simp only [fitL, Bool.and_eq_true] at h
    rw [prepL, prepL_fits (by simpa using hl) h.2]
    simp [prep1, h.1, fitP_kind h.1]
  | [], _ :: _, hl, _ => by simp at hl
  | _ :: _, [], hl, _ => by simp at hl
theorem prepL_nums : ∀ {fs : List Fld} {row l : List Val} (n : Nat), (∀ f, f ∈ fs → f.rep.num.length ≤ n) → (∀ v, v ∈ row → v.num.length ≤ n) → prepL fs row = some l → ∀ v, v ∈ l → v.num.length ≤ n
  | [], row, l, n, _, _, h => by cases row <;> simp [prepL] at h <;> subst h <;> simp
  | f :: fs, [], l, n, _, _, h => by simp [prepL] at h; subst h; simp
  | f :: fs, v :: vs, l, n, hf, hr, h => by
    rw [prepL] at h
    cases h1 : prep1 f v with
    | none => rw [h1] at h; simp at h
    | some w =>
      rw [h1] at h
      cases h2 : prepL fs vs with
      | none => rw [h2] at h; simp at h
      | some m =>
        rw [h2] at h
        simp at h
        subst h
        intro u hu
        rcases List.mem_cons.1 hu with rfl | hu
        · have hz : zeroV.num.length ≤ n := by simp [zeroV]
          have hrep := hf f (by simp)
          have hv := hr v (by simp)
          have key : ∀ o : Option Val, (∀ x, o = some x → x.num.length ≤ n) → (match o with | none => none | some w => some (if w.kind = 0 then f.rep else w)) = some u → u.num.length ≤ n := by
            intro o ho he
            cases o with
            | none => simp at he
            | some x =>
              simp at he
              rw [← he]
              split
              · exact hrep
              · exact ho x rfl
          refine key _ ?_ h1
          intro x hx
          split at hx
          · unfold invP at hx
            split at hx
            · cases hx; exact hz
            · split at hx
              · cases hx; exact hv
              · cases hx
          · cases hx; exact hv
        · exact prepL_nums n (fun g hg => hf g (by simp [hg])) (fun x hx => hr x (by simp [hx])) h2 u hu
theorem encVs_zeros (n : Nat) : List.replicate n [PV.int .i64 0, PV.str [], PV.str []] = encVs (List.replicate n zeroV) := by simp [encVs, encV, zeroV]

abbrev vrT (fs : List Fld) (row : List Val) (r : List (Nat × DV)) : List (Nat × DV) := (4, .p (.bool false)) :: (0, .p (.sl none 7 (encFs fs) [])) :: (1, .p (.sl none 3 (encVs row) [])) :: r
def vrI (fs : List Fld) (row : List Val) (y : Nat × Bool) : St := ⟨148, vrT fs row [(7, .p (.int .i64 (y.1 : Int))), (5, .p (.bool y.2)), (6, (pvObj 53 ((fs.take y.1).map Fld.rep)).1)], (pvObj 53 ((fs.take y.1).map Fld.rep)).2⟩
def vrJ (fs : List Fld) (row b : List Val) (y : Nat × Bool) : St := ⟨148, vrT fs row [(18, .p (.int .i64 (y.1 : Int))), (17, .p (.bool y.2)), (11, .p (.sl none 3 (encVs b) [])), (14, .p (.sl none 3 (encVs b) [])), (15, .p (.bool true)), (16, .p (.int .i64 0))], []⟩

set_option maxHeartbeats 4000000 in
theorem t_vrepl (fs : List Fld) (row : List Val) : PCall Tryd.prog 6 [.sl none 7 (encFs fs) [], .sl none 3 (encVs row) []] (· = .bool true) := by
  refine pcall_okz c_vrepl (by simp [c_vrepl]) fun x K hK => ?_
  have yes : K (.bool true) := hK _ _ rfl (by simp)
  refine ok_fst .wide ?_
  simp [c_vrepl]
  refine ok_mid (fun _ : Unit => fieldsB fs = true ∧ rowB row = true) (fun _ => ⟨148, vrT fs row [], []⟩) ?_ ?_
  · rintro _ ⟨hfb, hrb⟩
    obtain ⟨hfl, hfn⟩ := fieldsB_each hfb
    obtain ⟨hrl, hrn⟩ := rowB_each hrb
    refine ok_fst .wide ?_
    simp
    refine ok_fst .wide ?_
    simp
    refine ok_midf (fun W : PV => (W = .sl (some true) 0 [] [] ∧ fs = []) ∨ W = .sl none 3 (encVs (fs.map Fld.rep)) []) (fun W => ⟨148, vrT fs row [(5, .p (.bool (fs.all validF))), (6, .p W)], []⟩) ?_ ?_
    · rintro W hW
      have hprep0 := t_vprep fs (List.replicate fs.length zeroV) (by omega) (fun f hf => by have := hfn f hf; omega) (fun v hv => by rw [List.mem_replicate] at hv; rw [hv.2]; simp [zeroV])
      rw [prepR, if_pos (by simp), okL2_zeros, prepL_zeros] at hprep0
      have hpr1 := t_vprep fs row (by omega) (fun f hf => by have := hfn f hf; omega) (fun v hv => by have := hrn v hv; omega)
      refine ok_fst .wide ?_
      simp [maxLen_eq, show (fs.length : Int).toNat = fs.length by omega, show fs.length * 40 ≤ 281474976710656 by omega, show fs.length ≤ 9223372036854775807 by omega]
      refine oks_callz [58] .wide [.sl none 7 (encFs fs) [], .sl none 3 (encVs (List.replicate fs.length zeroV)) []] hprep0 (by simp) (by simp; rfl) (by simp [encVs_zeros]) ?_
      rintro _ rfl
      refine oks_vc .wide ?_
      cases hall : fs.all validF with
      | false =>
        simp
        refine ok_fst .wide ?_
        simp
        exact yes
      | true =>
        simp
        refine ok_fst .wide ?_
        simp
        refine ok_mid (fun _ : Unit => True) (fun _ => ⟨148, vrT fs row [], []⟩) ?_ ?_
        · rintro _ _
          refine ok_fst .wide ?_
          simp
          refine oks_callz [] .wide [.sl none 7 (encFs fs) [], .sl none 3 (encVs row) []] hpr1 (by simp) (by simp; rfl) (by simp) ?_
          rintro _ rfl
          refine oks_vc .wide ?_
          by_cases hlen : fs.length = row.length
          · by_cases hok : okL2 fs row = true
            · cases hpl : prepL fs row with
              | none =>
                simp [prepR, hlen, hok, hpl]
                refine ok_fst .wide ?_
                simp
                exact yes
              | some b =>
                obtain ⟨b1, b2, b3⟩ := prepL_twice hlen hok hpl
                have hbn := prepL_nums 2000 (fun f hf => (hfn f hf).1) (fun v hv => by have := (hrn v hv).1; omega) hpl
                have hpr2 := t_vprep fs b (by omega) (fun f hf => by have := hfn f hf; omega) (fun v hv => by have := hbn v hv; omega)
                rw [prepR, if_pos b1, if_pos b2, b3] at hpr2
                simp [prepR, hlen, hok, hpl]
                refine ok_fst .wide ?_
                simp
                refine ok_fst .wide ?_
                simp
                refine oks_callz [] .wide [.sl none 7 (encFs fs) [], .sl none 3 (encVs b) []] hpr2 (by simp) (by simp; rfl) (by simp) ?_
                rintro _ rfl
                refine oks_vc .wide ?_
                simp
                refine ok_fst .wide ?_
                simp
                refine ok_mid (fun _ : Unit => True) (fun _ => vrJ fs row b (row.length, fitL fs row)) ?_ ?_
                · rintro _ _
                  refine vc_ok .wide _ ?_
                  simp [vrJ]
                  refine oks_callz [] .wide [.sl none 3 (encVs b) [], .sl none 3 (encVs b) []] (r_samevals b b) (by simp) (by simp; rfl) (by simp) ?_
                  rintro _ rfl
                  refine oks_vc .wide ?_
                  rw [(sameL_iff b b).2 rfl]
                  cases hft : fitL fs row with
                  | false =>
                    simp
                    refine oks_skipc .wide (by simp) (oks_vc .wide ?_)
                    simp
                    exact yes
                  | true =>
                    have hbr : b = row := by
                      rw [prepL_fits hlen hft] at hpl
                      exact (Option.some.inj hpl).symm
                    simp
                    refine oks_callz [] .wide [.sl none 3 (encVs b) [], .sl none 3 (encVs row) []] (r_samevals b row) (by simp) (by simp; rfl) (by simp) ?_
                    rintro _ rfl
                    refine oks_vc .wide ?_
                    rw [(sameL_iff b row).2 hbr]
                    simp
                    exact yes
                · refine ok_fst .wide ?_
                  simp
                  refine ok_blk ?_
                  refine ok_lp (vrJ fs row b) (fun y => y.1 ≤ row.length ∧ fitL fs row = (y.2 && fitL (fs.drop y.1) (row.drop y.1))) (fun y => row.length - y.1) (0, true) ⟨by simp, by simp⟩ (sub_iff (by simp [vrJ])) ?_
                  rintro ⟨i, ft⟩ ⟨h1, h2⟩ Q k1 k2
                  simp only at h1 h2
                  refine ok_fst .wide ?_
                  by_cases hi : i = row.length
                  · have hft : ft = fitL fs row := by
                      rw [h2, hi, List.drop_length]
                      cases List.drop row.length fs <;> simp [fitL]
                    simp [vrJ, hi]
                    refine k2 _ _ (by simp) ?_
                    simp
                    exact AtC.mk () trivial (sub_iff (by simp [vrJ, hft]))
                  · have hlt : i < row.length := by omega
                    have hlf : i < fs.length := by omega
                    have hw : IntKind.i64.wrap ((i : Int) + 1) = (i : Int) + 1 := wrap_i64 (by omega)
                    rw [List.drop_eq_getElem_cons hlf, List.drop_eq_getElem_cons hlt, fitL] at h2
                    simp [vrJ, hlt]
                    refine ok_mid (fun _ : Unit => True) (fun _ => vrJ fs row b (i, ft && fitP fs[i] row[i])) ?_ ?_
                    · rintro _ _
                      refine vc_ok .wide _ ?_
                      simp [vrJ, hw]
                      exact k1 _ (i + 1, ft && fitP fs[i] row[i]) ⟨by simp only; omega, by rw [h2, Bool.and_assoc]⟩ (by simp only; omega) (sub_iff (by simp [vrJ]))
                    · refine ok_blk ?_
                      refine vc_ok .wide _ ?_
                      cases ft with
                      | false =>
                        simp
                        refine vc_draw .wide rfl ?_
                        simp
                        exact AtC.mk () trivial (sub_iff (by simp [vrJ]))
                      | true =>
                        simp
                        refine vc_draw .wide rfl ?_
                        simp [hlt, hlf]
                        refine dcall_pz [.agg (encF fs[i]), .agg (encV row[i])] _ (t_fit fs[i] row[i]) (by simp; rfl) (by simp [encF, encV]) ?_
                        simp
                        exact AtC.mk () trivial (sub_iff (by simp [vrJ]))
            · simp [prepR, hlen, hok]
              refine ok_fst .wide ?_
              simp
              exact yes
          · simp [prepR, hlen]
            refine ok_fst .wide ?_
            simp
            exact yes
        · refine vc_ok .wide _ ?_
          simp
          refine oks_callz [] .wide [.sl none 3 (encVs (fs.map Fld.rep)) [], .sl none 3 (encVs (fs.map Fld.rep)) []] (r_samevals _ _) (by simp) (by simp; rfl) (by rcases hW with ⟨h1, h2⟩ | h1 <;> subst h1 <;> simp [*] <;> simp [encVs]) ?_
          rintro _ rfl
          refine oks_vc .wide ?_
          rw [(sameL_iff _ _).2 rfl]
          simp
          exact AtC.mk () trivial (sub_iff (by simp))
    · refine ok_fst .wide ?_
      simp
      refine ok_blk ?_
      refine ok_lp (vrI fs row) (fun y => y.1 ≤ fs.length ∧ fs.all validF = (y.2 && (fs.drop y.1).all validF)) (fun y => fs.length - y.1) (0, true) ⟨by simp, by simp⟩ (sub_iff (by simp [vrI, pvObj])) ?_
      rintro ⟨i, ok⟩ ⟨h1, h2⟩ Q k1 k2
      simp only at h1 h2
      refine ok_fst .wide ?_
      by_cases hi : i = fs.length
      · have hok : ok = fs.all validF := by rw [h2, hi, List.drop_length]; simp
        subst hi
        have htk : fs.take fs.length = fs := List.take_length
        simp only [vrI, htk]
        simp
        refine k2 _ _ (by simp) ?_
        simp
        cases fs with
        | nil => exact AtF.mk (.sl (some true) 0 [] []) [] (.inl ⟨rfl, rfl⟩) (frz_sub (by simp [pvObj, hok]))
        | cons f r => exact AtF.mk (.sl none 3 (encVs ((f :: r).map Fld.rep)) []) [53] (.inr rfl) (frz_sub (by simp [pvObj, hok, encVs]; exact List.take_of_length_le (by simp)))
      · have hlt : i < fs.length := by omega
        have hw : IntKind.i64.wrap ((i : Int) + 1) = (i : Int) + 1 := wrap_i64 (by omega)
        rw [List.drop_eq_getElem_cons hlt, List.all_cons] at h2
        have htk : (fs.take (i + 1)).map Fld.rep = (fs.take i).map Fld.rep ++ [fs[i].rep] := by
          rw [← List.take_append_getElem hlt, List.map_append]; rfl
        have hal : ((fs.take i).map Fld.rep).length ≤ 500 := by simp; omega
        simp only [vrI]
        generalize (fs.take i).map Fld.rep = acc at *
        simp [hlt]
        refine ok_mid (fun _ : Unit => True) (fun _ => ⟨148, vrT fs row [(7, .p (.int .i64 (i : Int))), (5, .p (.bool (ok && validF fs[i]))), (6, (pvObj 53 (acc ++ [fs[i].rep])).1)], (pvObj 53 (acc ++ [fs[i].rep])).2⟩) ?_ ?_
        · rintro _ _
          refine vc_ok .wide _ ?_
          simp [hw]
          exact k1 _ (i + 1, ok && validF fs[i]) ⟨by simp only; omega, by rw [h2, Bool.and_assoc]⟩ (by simp only; omega) (sub_iff (by simp only [vrI, htk]; cases acc <;> simp [pvObj]))
        · refine ok_blk ?_
          refine ok_mid (fun _ : Unit => True) (fun _ => ⟨148, vrT fs row [(7, .p (.int .i64 (i : Int))), (5, .p (.bool (ok && validF fs[i]))), (6, (pvObj 53 acc).1)], (pvObj 53 acc).2⟩) ?_ ?_
          · rintro _ _
            refine vc_ok .wide _ ?_
            cases acc with
            | nil =>
              simp [pvObj, hlt, encF, maxLen_eq]
              exact AtC.mk () trivial (sub_iff (by simp [pvObj, encVs, encV]))
            | cons d r =>
              simp at hal
              simp [pvObj, hlt, encF, maxLen_eq, show (r.length + 1 + 1) * 40 ≤ 140737488355328 by omega, show r.length + 1 + 1 ≤ 9223372036854775807 by omega]
              exact AtC.mk () trivial (sub_iff (by simp [pvObj, encVs, encV]; exact List.take_of_length_le (by simp)))
          · refine vc_ok .wide _ ?_
            cases ok with
            | false =>
              cases acc <;>
              · simp [pvObj]
                refine oks_skipc .wide (by simp) (oks_vc .wide ?_)
                simp
                exact AtC.mk () trivial (sub_iff (by simp [pvObj]))
            | true =>
              have hvf := t_vfield fs[i] (by have := hfn fs[i] (List.getElem_mem hlt); omega)
              cases acc <;>
              · simp [pvObj, hlt]
                refine oks_callz [] .wide [.agg (encF fs[i])] hvf (by simp) (by simp; rfl) (by simp [encF]) ?_
                rintro _ rfl
                refine oks_vc .wide ?_
                simp
                exact AtC.mk () trivial (sub_iff (by simp [pvObj]))
  · refine vc_ok .wide _ ?_
    simp
    refine oks_callz [] .wide [.sl none 7 (encFs fs) []] (r_fields fs) (by simp) (by simp; rfl) (by simp) ?_
    rintro _ rfl
    refine oks_vc .wide ?_
    cases h1 : fieldsB fs with
    | false =>
      simp
      refine oks_skipc .wide (by simp) (oks_vc .wide ?_)
      simp
      refine oks_skipc .wide (by simp) (oks_vc .wide ?_)
      simp
      refine oks_callz [] .wide [] t_alive12 (by simp) (by simp; rfl) (by simp) ?_
      rintro _ rfl
      refine oks_vc .wide ?_
      simp
      exact yes
    | true =>
      simp
      refine oks_callz [] .wide [.sl none 3 (encVs row) []] (r_rowX row) (by simp) (by simp; rfl) (by simp) ?_
      rintro _ rfl
      refine oks_vc .wide ?_
      cases h2 : rowB row with
      | false =>
        simp
        refine oks_skipc .wide (by simp) (oks_vc .wide ?_)
        simp
        refine oks_callz [] .wide [] t_alive12 (by simp) (by simp; rfl) (by simp) ?_
        rintro _ rfl
        refine oks_vc .wide ?_
        simp
        exact yes
      | true =>
        simp
        refine oks_callz [] .wide [] t_alive12 (by simp) (by simp; rfl) (by simp) ?_
        rintro _ rfl
        refine oks_vc .wide ?_
        simp
        exact AtC.mk () (by first | exact ⟨h1, h2⟩ | trivial) (sub_iff (by simp))
end Go.Dl
