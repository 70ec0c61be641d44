/- Regions that draw the order of their operations. Draws, reckoned by simp; what is nil or not; calls resolved. A slice of which it is not known whether it is nil: two cases. -/
import Derived.Test.YtjmhdfcmghmgjaaDoorA6
set_option linter.unusedVariables false
set_option linter.unusedSimpArgs false
namespace Go.Dl

abbrev Dr := DOper × List Nat × List Nat

/-- the keys of the stores u -/
def dks (sk : List (Nat × Nat)) : List Nat → List Nat
  | [] => []
  | j :: r => match lk sk j with | some k => k :: dks sk r | none => dks sk r
def canH (un : List Nat) (H : List (Nat × Ob)) : List Nat → List (Nat × Ob)
  | [] => []
  | k :: r => if un.contains k then canH un H r else match lk H k with | some ob => (k, ob) :: canH un H r | none => canH un H r
def St.lim (st : St) (sk : List (Nat × Nat)) (ks : List Nat) (l : List Nat × List Nat) : St := { nt := st.nt, T := l.1.map fun i => (i, st.get i), H := canH (dks sk l.2) st.H ks }
def St.setO (st : St) (d : Option Nat) (v : DV) : St := match d with | some d => st.set d v | none => st

theorem mem_dks {sk : List (Nat × Nat)} {j k : Nat} (h : lk sk j = some k) : ∀ {u : List Nat}, j ∈ u → k ∈ dks sk u
  | [], hj => by cases hj
  | i :: u, hj => by
    simp only [dks]
    rcases List.mem_cons.1 hj with rfl | hj
    · rw [h]; simp
    · have := mem_dks h hj
      split
      · exact List.mem_cons_of_mem _ this
      · exact this
theorem lk_canH {un : List Nat} {H : List (Nat × Ob)} {k : Nat} {ob : Ob} : ∀ {ks : List Nat}, lk (canH un H ks) k = some ob → lk H k = some ob ∧ k ∉ un
  | [], h => by simp [canH, lk] at h
  | j :: ks, h => by
    simp only [canH] at h
    split at h
    · exact lk_canH h
    · rename_i hj
      split at h
      · rename_i o ho
        rw [lk_cons] at h
        split at h
        · rename_i e; subst e; cases h; exact ⟨ho, by simpa using hj⟩
        · exact lk_canH h
      · exact lk_canH h
theorem canH_congr {un : List Nat} {H H' : List (Nat × Ob)} (h : ∀ k, k ∉ un → lk H k = lk H' k) : ∀ ks, canH un H ks = canH un H' ks
  | [] => rfl
  | j :: ks => by
    simp only [canH, canH_congr h ks]
    split
    · rfl
    · rename_i hj
      rw [h j (by simpa using hj)]

theorem lk_lim (st : St) : ∀ (l : List Nat) (i : Nat), lk (l.map fun i => (i, st.get i)) i = if i ∈ l then some (st.get i) else none
  | [], i => by simp [lk]
  | j :: l, i => by
    simp only [List.map_cons, lk_cons, lk_lim st l i, List.mem_cons]
    by_cases e : j = i
    · subst e; simp
    · rw [if_neg e]
      have : ¬ i = j := fun h => e h.symm
      simp [this]
theorem sub_lim (st : St) (sk : List (Nat × Nat)) (ks : List Nat) (l : List Nat × List Nat) : st.Sub (st.lim sk ks l) := by
  refine ⟨rfl, fun i d h => ?_, fun k ob h => (lk_canH h).1⟩
  simp only [St.lim, lk_lim] at h
  split at h
  · cases h
    unfold St.get
    cases lk st.T i with
    | none => exact .inr rfl
    | some d => exact .inl rfl
  · cases h
theorem lim_congr {s t : St} {sk : List (Nat × Nat)} {ks : List Nat} {l : List Nat × List Nat} (hn : s.nt = t.nt) (hH : ∀ k, k ∉ dks sk l.2 → lk s.H k = lk t.H k) (hg : ∀ i, i ∈ l.1 → s.get i = t.get i) : s.lim sk ks l = t.lim sk ks l := by
  have : l.1.map (fun i => (i, s.get i)) = l.1.map (fun i => (i, t.get i)) := List.map_congr_left fun i hi => by rw [hg i hi]
  simp only [St.lim, this, hn, canH_congr hH]
theorem get_set (st : St) (d : Nat) (v : DV) (t : Nat) : (st.set d v).get t = if d = t then v else st.get t := by
  simp only [St.get, St.set, lk_cons]
  by_cases e : d = t
  · rw [if_pos e, if_pos e]
  · rw [if_neg e, if_neg e]

/-- what an operation's slot holds behind it, from the slots that it looks at -/
inductive DY (P : Program) (st : St) (o : DOper) : DV → Prop
  | no (i : Nat) (want b : Bool) (hg : o.g = some (i, want)) (hb : st.get i = .p (.bool b)) (hne : b ≠ want) : DY P st o (.p (.tup []))
  | und (i : Nat) (want : Bool) (hg : o.g = some (i, want)) (hb : st.get i = .p (.tup [])) : DY P st o (.p (.tup []))
  | ev (v : DV) (hg : gOk st o.g) (h : evOp st o.op = some v) : DY P st o v
  | call (f : Nat) (l : List DOpd) (ps : List PV) (r : PV) (hg : gOk st o.g) (ho : o.op = .call f l) (hp : pures (l.map st.ev) = some ps) (hc : PCall P f (ps.map PV.norm) (· = r)) : DY P st o (.p r)
  | calls (f : Nat) (l : List DOpd) (ps : List PV) (r : PV) (hg : gOk st o.g) (ho : o.op = .call f l) (hp : snapL st (l.map st.ev) = some ps) (hc : PCall P f ps (· = r)) (hsc : r.scalar = true) : DY P st o (.p r)
  | heap (st2 : St) (p : PV) (d : Nat) (hg : gOk st o.g) (hd : o.dst = some d) (h : stepD ⟨st.nt, st.T, []⟩ (some d) o.op = some st2) (hp : snap st2 (st2.get d) = some p) : DY P st o (.p p)

inductive Ef where
  | v (d : DV)
  | st (k : Nat) (ob : Ob)
def St.eff (st : St) (dst : Option Nat) : Ef → St
  | .v d => st.setO dst d
  | .st k ob => st.upd k ob
inductive DE (P : Program) (st : St) (o : DOper) : Ef → Prop
  | v (v : DV) (h : DY P st o v) : DE P st o (.v v)
  | st (k : Nat) (ob0 ob : Ob) (n : Nat) (y1 y2 : DOpd) (hg : gOk st o.g) (hd : o.dst = none) (ho : o.op = .st n y1 y2) (hk : lk st.H k = some ob0) (hro : ob0.ro = false)
      (h : stepD ⟨st.nt, st.T, [(k, ob0)]⟩ none o.op = some (St.upd ⟨st.nt, st.T, [(k, ob0)]⟩ k ob)) (hrn : ob.ro = false) : DE P st o (.st k ob)

section
variable {F : Fence} {P : Program} {nt n : Nat} {x : Fx}

theorem call_run {oo : Oper} {f : Nat} {l : List DOpd} (e2 : compOp P oo.op = .call f l) :
    ∃ args : Array Operand, l = args.toList.map opd ∧ ∀ (a : Act) (w : World), (execOp a.eval oo).run P w = .ok (.enter f (args.map a.eval)) w := by
  obtain ⟨dst, op, ty, pos, after, guard⟩ := oo
  simp only at e2
  have hop : ∃ args ats, op = .call { callee := .value (.func f), args := args, argTypes := ats } := by
    cases op with
    | call c =>
      obtain ⟨cal, args, ats⟩ := c
      simp only [compOp] at e2
      split at e2
      all_goals first
        | (rename_i f'
           split at e2
           · split at e2
             · cases e2
             · simp only [DOp.call.injEq] at e2
               rw [← e2.1]
               exact ⟨_, _, rfl⟩
           · cases e2)
        | (exfalso; repeat' split at e2
           all_goals cases e2)
        | cases e2
    | _ =>
      exfalso
      simp only [compOp] at e2
      repeat' split at e2
      all_goals cases e2
  obtain ⟨args, ats, rfl⟩ := hop
  refine ⟨args, ?_, fun a w => ?_⟩
  · exact (run_call (a := ⟨#[], []⟩) (w := default) (dst := dst) (ty := ty) (pos := pos) (after := after) (guard := guard) e2).1
  · exact (run_call (a := a) (w := w) (dst := dst) (ty := ty) (pos := pos) (after := after) (guard := guard) e2).2

theorem wanted_ok {st : St} {κ : Nat → Nat} {a : Act} {w : World} (hs : Sat x st κ a w) (hn : st.nt = nt) {arr : Array Oper} {oo : Oper} (hg : gOk st (compOper P nt arr oo).g) (hb : (compOper P nt arr oo).op ≠ .bad) :
    Region.wanted oo (yielded arr a.tmps) = true := by
  obtain ⟨e1, hcc⟩ := compOper_op (rfl : compOper P nt arr oo = _)
  rcases hcc with ⟨hb1, _⟩ | ⟨e2, e3, hgg⟩
  · exact (hb hb1).elim
  · rcases hgg with ⟨g1, g2⟩ | ⟨j, b, k, g1, g2, g3, g4⟩
    · simp [Region.wanted, g1]
    · rw [g4] at hg
      have hy := yielded_bool hs g2 (by rw [hn]; exact g3) hg
      simp [Region.wanted, g1, hy]

theorem Sat.part {s t : St} {κ : Nat → Nat} {a : Act} {w : World} (hs : Sat x s κ a w) (hsub : s.Sub t) : ∃ x' : Fx, Sat x' t κ a w ∧ x'.S t κ = x.S s κ := by
  let x' : Fx := ⟨fun b => x.S s κ b ∧ ¬ ∃ k ob, lk t.H k = some ob ∧ κ k = b, fun b => True, w, x.ds, fun _ => none⟩
  have hS : x'.S t κ = x.S s κ := by
    funext b
    refine propext ⟨?_, fun hb => ?_⟩
    · rintro (h | ⟨j, ob, hj, hro, he⟩)
      · exact h.1
      · exact .inr ⟨j, ob, hsub.2.2 _ _ hj, hro, he⟩
    · by_cases e : ∃ k ob, lk t.H k = some ob ∧ κ k = b
      · obtain ⟨k, ob, hk, rfl⟩ := e
        rcases hb with hb | ⟨k', ob', hk', hro, he⟩
        · exact ((hs.mine k ob (hsub.2.2 _ _ hk)).2 hb).elim
        · have := hs.inj _ _ _ _ hk' (hsub.2.2 _ _ hk) he
          subst this
          rw [hsub.2.2 _ _ hk] at hk'
          cases hk'
          exact .inr ⟨k', ob, hk, hro, rfl⟩
      · exact .inl ⟨hb, e⟩
  refine ⟨x', ⟨hs.ds, hs.nt.trans hsub.1.symm, fun i d hd => ?_, fun j ob hj => ?_, fun j j' o1 o2 h1 h2 he => hs.inj _ _ _ _ (hsub.2.2 _ _ h1) (hsub.2.2 _ _ h2) he, fun j ob hj => ?_, Fr.refl _ _, fun b hb => hs.Slt b hb.1, fun k b hk => by cases hk⟩, hS⟩
  · rw [hS]
    rcases hsub.2.1 i d hd with h | rfl
    · exact hs.T i d h
    · exact .undef _
  · rw [hS]; exact hs.H j ob (hsub.2.2 _ _ hj)
  · exact ⟨.inr trivial, fun h => h.2 ⟨j, ob, hj, rfl⟩⟩

theorem draw_op (hF : Free F) {s : St} {κ : Nat → Nat} {a : Act} {w : World} (hs : Sat x s κ a w) {arr : Array Oper} {i : Nat} {oo : Oper} (hi : arr[i]? = some oo) {sk : List (Nat × Nat)} {ks : List Nat} {l : List Nat × List Nat} {v : DV} (hn : s.nt = nt)
    (hy : DY P (s.lim sk ks l) (compOper P nt arr oo) v) {Q : Exit → Act → World → Prop} {K : Act → World → Prop}
    (hK : ∀ u w', Fr (fun _ => False) w w' → DRel w' (x.S s κ) κ v u → K (a.put oo.dst u) w') : wpOpIn F n P arr Q i K a w := by
  obtain ⟨x', hl, hS⟩ := hs.part (sub_lim s sk ks l)
  rw [← hS] at hK
  have hcc := compOper_op (rfl : compOper P nt arr oo = _)
  unfold wpOpIn
  simp only [hi]
  have goCall : ∀ (f : Nat) (l' : List DOpd) (r : PV), gOk (s.lim sk ks l) (compOper P nt arr oo).g → (compOper P nt arr oo).op = .call f l' →
      (∀ vs : List Value, (∀ (i : Nat) (c : DV) (v : Value), (l'.map (s.lim sk ks l).ev)[i]? = some c → vs[i]? = some v → DRel w (x'.S (s.lim sk ks l) κ) κ c v) → l'.length = vs.length →
        Calls P f vs.toArray w fun e w' => ∃ u, e = .returned u ∧ Fr (fun _ => False) w w' ∧ PRel w' (x'.S (s.lim sk ks l) κ) r u) → v = .p r →
      if Region.wanted oo (yielded arr a.tmps) = true then oo.wpIn F n P a w K Q else (∀ f, oo.about P w a.eval = some f → F.fn f) ∧ K (a.put oo.dst undef) w := by
    intro f l' r hg ho hcall hv
    subst hv
    rw [if_pos (wanted_ok hl hn hg (by rw [ho]; simp))]
    obtain ⟨e1, hcc⟩ := hcc
    rcases hcc with ⟨hb1, _⟩ | ⟨e2, _, _⟩
    · rw [ho] at hb1; cases hb1
    · rw [ho] at e2
      obtain ⟨args, rfl, hrun⟩ := call_run e2.symm
      refine ⟨fun f _ => hF.fn f, ?_⟩
      rw [semAt_eq (not_defer (P := P) (by rw [← e2]; simp)), hrun]
      have ea : args.map a.eval = (args.toList.map a.eval).toArray := by apply Array.ext'; simp
      rw [ea]
      refine ⟨fun h => (by rw [hF.depth] at h; cases h), ?_⟩
      refine CallsIn.mono (calls_in hF (hcall _ (hl.evs args.toList) (by simp))) ?_
      rintro e w' ⟨u, rfl, hfr, hu⟩
      exact hK u w' hfr (.p _ _ hu)
  cases hy with
  | no i want b hg hb hne =>
    obtain ⟨e1, hcc⟩ := hcc
    rcases hcc with ⟨hb1, hb2⟩ | ⟨e2, e3, hgg⟩
    · rw [hb2] at hg; cases hg
    · rcases hgg with ⟨g1, g2⟩ | ⟨j, b', k, g1, g2, g3, g4⟩
      · rw [g2] at hg; cases hg
      · rw [g4] at hg
        cases hg
        have hy := yielded_bool hl g2 (by show _ < s.nt; rw [hn]; exact g3) hb
        rw [if_neg (by simp [Region.wanted, g1, hy, hne])]
        exact ⟨fun f _ => hF.fn f, hK _ w (Fr.refl _ _) (und_rel _ _ _)⟩
  | und i want hg hb =>
    obtain ⟨e1, hcc⟩ := hcc
    rcases hcc with ⟨hb1, hb2⟩ | ⟨e2, e3, hgg⟩
    · rw [hb2] at hg; cases hg
    · rcases hgg with ⟨g1, g2⟩ | ⟨j, b', k, g1, g2, g3, g4⟩
      · rw [g2] at hg; cases hg
      · rw [g4] at hg
        cases hg
        have hy := yielded_und (arr := arr) hl g2 hb
        rw [if_neg (by simp [Region.wanted, g1, hy])]
        exact ⟨fun f _ => hF.fn f, hK _ w (Fr.refl _ _) (und_rel _ _ _)⟩
  | ev v hg h =>
    rw [if_pos (wanted_ok hl hn hg (by intro hb; rw [hb] at h; simp [evOp] at h))]
    obtain ⟨e1, hcc⟩ := hcc
    rcases hcc with ⟨hb1, _⟩ | ⟨e2, _, _⟩
    · rw [hb1] at h; simp [evOp] at h
    · rw [e2] at h
      obtain ⟨u, hrun, hu⟩ := evOp_sound hl oo v h
      refine ⟨fun f _ => hF.fn f, ?_⟩
      rw [semAt_eq (not_defer (P := P) (by intro hb; rw [hb] at h; simp [evOp] at h)), hrun]
      exact hK u w (Fr.refl _ _) hu
  | call f l' ps r hg ho hp hc =>
    refine goCall f l' r hg ho (fun vs hrel hlen => ?_) rfl
    obtain ⟨h1, h2⟩ := pures_rel hp hrel
    refine (hc w (x'.S (s.lim sk ks l) κ) vs hl.Slt (by simp at h1 hlen ⊢; omega) (fun i c v hc hv => ?_)).mono ?_
    · simp only [List.getElem?_map, Option.map_eq_some_iff] at hc
      obtain ⟨q, hq, rfl⟩ := hc
      exact (h2 i q v hq hv).norm
    · rintro e w' ⟨u, _, rfl, rfl, hfr, hu⟩
      exact ⟨u, rfl, hfr, hu⟩
  | calls f l' ps r hg ho hp hc hsc =>
    refine goCall f l' r hg ho (fun vs hrel hlen => ?_) rfl
    obtain ⟨h1, h2⟩ := snapL_self hl (by simpa using hlen) hrel hp
    refine (hc w (fun _ => False) vs (fun _ h => h.elim) h1 h2).mono ?_
    rintro e w' ⟨u, _, rfl, rfl, hfr, hu⟩
    exact ⟨u, rfl, hfr, hu.scalar hsc⟩
  | heap st2 p d hg hd h hp =>
    rw [if_pos (wanted_ok hl hn hg (by intro hb; rw [hb, stepD_bad] at h; cases h))]
    obtain ⟨e1, hcc⟩ := hcc
    rcases hcc with ⟨hb1, _⟩ | ⟨e2, e3, _⟩
    · rw [hb1, stepD_bad] at h; cases h
    · rw [hd] at e1
      rw [e2, e1] at h
      let x2 : Fx := ⟨x'.S (s.lim sk ks l) κ, fun _ => False, w, x.ds, fun _ => none⟩
      have hx2 : ∀ b, x2.S ⟨(s.lim sk ks l).nt, (s.lim sk ks l).T, []⟩ κ b → x'.S (s.lim sk ks l) κ b := by
        rintro b (h | ⟨k, ob, hk, _⟩)
        · exact h
        · simp [lk] at hk
      have hs2 : Sat x2 ⟨(s.lim sk ks l).nt, (s.lim sk ks l).T, []⟩ κ a w :=
        ⟨hs.ds, hs.nt, fun i d hd => (hl.T i d hd).mono (Keep.refl _ _) (fun b _ hb => hx2 b hb), fun k ob hk => by simp [lk] at hk, fun k k' ob ob' hk => by simp [lk] at hk, fun k ob hk => by simp [lk] at hk,
          Fr.refl _ _, hl.Slt, fun k b hk => by cases hk⟩
      obtain ⟨u, w', κ', hrun, hs3⟩ := stepD_sound hs2 oo (fun d hd => by show d < s.nt; rw [hn]; exact e3 d hd) h
      have hu : DRel w' (x2.S st2 κ') κ' (st2.get d) u := by
        have hg := hs3.get d
        have : (a.put oo.dst u).tmps.getD d undef = u := by
          rw [← e1, getD_put _ _ _ _ (by rw [hs.nt, hn]; exact e3 d e1.symm), if_pos rfl]
        rw [this] at hg
        exact hg
      have hpr : PRel w' (x'.S (s.lim sk ks l) κ) p u := snap_rel hs3 (st0 := st2) (fun _ _ _ h => h) (S := x'.S (s.lim sk ks l) κ) (fun b _ h => .inl h) (fun k sz rows hk hh => by
        obtain ⟨ro, hlk⟩ := pob_at hk
        exact (hs3.mine k _ hlk).2 hh) hu hp
      refine ⟨fun f _ => hF.fn f, ?_⟩
      rw [semAt_eq (not_defer (P := P) (by intro hb; rw [hb, stepD_bad] at h; cases h))]
      rcases hrun with hrun | ⟨hrun, rfl⟩
      · rw [hrun]; exact hK u w' hs3.fr (.p _ _ hpr)
      · rw [hrun]; exact hK _ w' hs3.fr (.p _ _ hpr)

/-- what an operation does: a value for its slot, or an object that turns -/
theorem st_run {oo : Oper} {n : Nat} {y1 y2 : DOpd} (h : compOp P oo.op = .st n y1 y2) : ∃ t z1 z2, oo.op = .store t z1 z2 ∧ sizeT P t = some n ∧ y1 = opd z1 ∧ y2 = opd z2 := by
  obtain ⟨dst, op, ty, pos, after, guard⟩ := oo
  simp only at h ⊢
  cases op with
  | store t z1 z2 =>
    simp only [compOp] at h
    split at h
    · rename_i m hm
      cases h
      exact ⟨t, z1, z2, rfl, hm, rfl, rfl⟩
    · cases h
  | _ =>
    exfalso
    simp only [compOp] at h
    repeat' split at h
    all_goals cases h

theorem draw_st (hF : Free F) {s : St} {κ : Nat → Nat} {a : Act} {w : World} (hs : Sat x s κ a w) {arr : Array Oper} {i : Nat} {oo : Oper} (hi : arr[i]? = some oo) {sk : List (Nat × Nat)} {ks : List Nat} {l : List Nat × List Nat} {k : Nat} {ob : Ob} (hn : s.nt = nt)
    (hy : DE P (s.lim sk ks l) (compOper P nt arr oo) (.st k ob)) {Q : Exit → Act → World → Prop} {K : Act → World → Prop}
    (hK : ∀ w', Sat x (s.upd k ob) κ (a.put oo.dst undef) w' → K (a.put oo.dst undef) w') : wpOpIn F n P arr Q i K a w := by
  have hl : Sat x (s.lim sk ks l) κ a w := hs.sub (sub_lim s sk ks l)
  cases hy with
  | st _ ob0 _ m y1 y2 hg hd ho hk hro h hrn =>
  have hcc := compOper_op (rfl : compOper P nt arr oo = _)
  have hk' : lk s.H k = some ob0 := (lk_canH hk).1
  unfold wpOpIn
  simp only [hi]
  rw [if_pos (wanted_ok hl hn hg (by rw [ho]; simp))]
  obtain ⟨e1, hcc⟩ := hcc
  rcases hcc with ⟨hb1, _⟩ | ⟨e2, e3, _⟩
  · rw [hb1] at ho; cases ho
  · rw [e2] at ho
    obtain ⟨t, z1, z2, hop, hm, rfl, rfl⟩ := st_run ho
    rw [e2, ho] at h
    let x2 : Fx := ⟨fun b => x.S s κ b ∧ b ≠ κ k, fun b => b = κ k, w, x.ds, fun _ => none⟩
    have hS2 : x2.S ⟨(s.lim sk ks l).nt, (s.lim sk ks l).T, [(k, ob0)]⟩ κ = x.S s κ := by
      funext b
      refine propext ⟨?_, fun hb => ?_⟩
      · rintro (h | ⟨j, ob', hj, hro', he⟩)
        · exact h.1
        · simp only [lk_cons] at hj
          split at hj
          · rename_i e; subst e; rw [← he]; exact Sat.ownedBlock hk' hro
          · simp [lk] at hj
      · by_cases e : b = κ k
        · exact .inr ⟨k, ob0, by simp [lk], hro, e.symm⟩
        · exact .inl ⟨hb, e⟩
    have hob := hs.H k ob0 hk'
    have hs2 : Sat x2 ⟨(s.lim sk ks l).nt, (s.lim sk ks l).T, [(k, ob0)]⟩ κ a w := by
      refine ⟨hs.ds, hs.nt, fun i d hd => ?_, fun j ob' hj => ?_, fun j j' o1 o2 h1 h2 _ => ?_, fun j ob' hj => ?_, Fr.refl _ _, fun b hb => hs.Slt b hb.1, fun k b hk => by cases hk⟩
      · rw [hS2]
        have hd : lk (l.1.map fun i => (i, s.get i)) i = some d := hd
        rw [lk_lim] at hd
        split at hd
        · cases hd; exact hs.get i
        · cases hd
      · simp only [lk_cons] at hj
        split at hj
        · rename_i e; subst e; cases hj; rw [hS2]; exact hob
        · simp [lk] at hj
      · simp only [lk_cons] at h1 h2
        split at h1
        · split at h2
          · rename_i e e'; exact e.symm.trans e'
          · simp [lk] at h2
        · simp [lk] at h1
      · simp only [lk_cons] at hj
        split at hj
        · rename_i e; subst e; exact ⟨.inr rfl, fun h => h.2 rfl⟩
        · simp [lk] at hj
    obtain ⟨w', hrun, hs3⟩ := d_st (P := P) hs2 hm z1 z2 h
    refine ⟨fun f _ => hF.fn f, ?_⟩
    rw [semAt_eq (not_defer (P := P) (by rw [ho]; simp))]
    have hrun' : (execOp a.eval oo).run P w = .ok .skip w' := by simp [execOp, hop, hrun]
    rw [hrun']
    have hS3 : x2.S (St.upd ⟨(s.lim sk ks l).nt, (s.lim sk ks l).T, [(k, ob0)]⟩ k ob) κ = x.S s κ := by
      rw [← hS2]
      funext b
      refine propext ⟨?_, ?_⟩
      · rintro (h | ⟨j, ob', hj, hro', he⟩)
        · exact .inl h
        · simp only [St.upd, lk_cons] at hj
          split at hj
          · rename_i e; subst e; exact .inr ⟨k, ob0, by simp [lk], hro, he⟩
          · simp [lk] at hj
      · rintro (h | ⟨j, ob', hj, hro', he⟩)
        · exact .inl h
        · simp only [lk_cons] at hj
          split at hj
          · rename_i e; subst e; exact .inr ⟨k, ob, by simp [St.upd, lk], hrn, he⟩
          · simp [lk] at hj
    refine hK w' ?_
    have hdn : oo.dst = none := by rw [← e1]; exact hd
    rw [hdn]
    have := hs3.H k ob (by simp [St.upd, lk])
    rw [hS3] at this
    exact hs.updOb k ob0 hk' hro ob hs3.fr hrn this
end

/-! ### what the order of the text has to do with the others -/

theorem lex_facts {md : Region.Mode} {ops : Array Oper} : ∀ (fuel k : Nat) (listed : Array Bool), listed.size = ops.size → (∀ j, j < ops.size → listed[j]? = some (decide (j < k))) → fuel + k = ops.size → Region.lexFrom md ops fuel k listed = true →
    ∀ i, k ≤ i → ∀ oi, ops[i]? = some oi → (∀ e ∈ oi.after, Region.binds md e = true → e.on < i) ∧ (∀ j oj, i < j → ops[j]? = some oj → (∃ e ∈ oj.after, Region.binds md e = true ∧ e.on = i) ∨ oi.apart ops oj = true)
  | 0, k, listed, hsz, hl, hk, h, i, hi, oi, ho => by
    have := (Array.getElem?_eq_some_iff.1 ho).1
    omega
  | fuel + 1, k, listed, hsz, hl, hk, h, i, hi, oi, ho => by
    simp only [Region.lexFrom, Bool.and_eq_true] at h
    obtain ⟨⟨hr, hf⟩, hB⟩ := h
    rcases Nat.eq_or_lt_of_le hi with rfl | hlt
    · have hr : k ∈ Region.ready md ops listed := by simpa using hr
      obtain ⟨h0, o, ho', hall⟩ := mem_ready.1 hr
      rw [ho] at ho'
      cases ho'
      refine ⟨fun e he hb => ?_, fun j oj hj hoj => ?_⟩
      · have h1 := hall e he hb
        have hlt : e.on < ops.size := by
          rcases Nat.lt_or_ge e.on listed.size with h' | h'
          · omega
          · simp [Array.getElem?_eq_none h'] at h1
        have h2 := hl e.on hlt
        simp only [Array.getD_eq_getD_getElem?, h2, Option.getD_some, decide_eq_true_eq] at h1
        exact h1
      · by_cases hc : ∃ e ∈ oj.after, Region.binds md e = true ∧ e.on = k
        · exact .inl hc
        · refine .inr (Region.free_spec ho hf j oj hoj (by omega) ?_ (fun e he hb heq => hc ⟨e, he, hb, heq⟩))
          have := hl j (Array.getElem?_eq_some_iff.1 hoj).1
          simp only [Array.getD_eq_getD_getElem?, this, Option.getD_some, decide_eq_false_iff_not]
          omega
    · refine lex_facts fuel (k + 1) (listed.setIfInBounds k true) (by simp [hsz]) (fun j hj => ?_) (by omega) hB i hlt oi ho
      by_cases e : k = j
      · subst e; simp [hsz, hj]
      · rw [Array.getElem?_setIfInBounds_ne e, hl j hj]
        congr 1
        exact decide_eq_decide.2 (by omega)

/-! ### the walk in the order of the text, and all others -/

inductive Ch (P : Program) (sk : List (Nat × Nat)) (ks : List Nat) : Nat → List Dr → St → List Ef → St → Prop
  | nil (n : Nat) (st : St) : Ch P sk ks n [] st [] st
  | cons (n : Nat) (o : DOper) (l : List Nat × List Nat) (e : Ef) (ops : List Dr) (es : List Ef) (st st' : St) (h : DE P (st.lim sk ks l) o e) (hk : ∀ k ob, e = .st k ob → lk sk n = some k) (hr : Ch P sk ks (n + 1) ops (st.eff o.dst e) es st') : Ch P sk ks n ((o, l) :: ops) st (e :: es) st'

def dnd : List Dr → Bool
  | [] => true
  | (o, _) :: r => (match o.dst with | none => true | some d => r.all fun q => q.1.dst != some d) && dnd r
theorem dnd_spec : ∀ {ops : List Dr}, dnd ops = true → ∀ (i j : Nat) (o o' : DOper) (l l' : List Nat × List Nat) (t : Nat), ops[i]? = some (o, l) → ops[j]? = some (o', l') → o.dst = some t → o'.dst = some t → i = j
  | [], h, i, j, o, o', l, l', t, h1, h2, h3, h4 => by simp at h1
  | (o0, l0) :: r, h, i, j, o, o', l, l', t, h1, h2, h3, h4 => by
    simp only [dnd, Bool.and_eq_true] at h
    have key : ∀ (i : Nat) (o : DOper) (l : List Nat × List Nat), r[i]? = some (o, l) → o.dst = some t → o0.dst = some t → False := by
      intro i o l h1 h2 h3
      have h := h.1
      simp only [h3, List.all_eq_true] at h
      have := h _ (List.mem_of_getElem? h1)
      simp [h2] at this
    cases i with
    | zero =>
      simp at h1
      cases j with
      | zero => rfl
      | succ j => simp at h2; exact (key j o' l' h2 h4 (by rw [h1.1]; exact h3)).elim
    | succ i =>
      simp at h1
      cases j with
      | zero => simp at h2; exact (key i o l h1 h3 (by rw [h2.1]; exact h4)).elim
      | succ j => simp at h2; rw [dnd_spec h.2 i j o o' l l' t h1 h2 h3 h4]

/-- the object of k behind the stores of L -/
def foldH (L : Nat → Bool) (k : Nat) : List Ef → Nat → Option Ob → Option Ob
  | [], _, acc => acc
  | .st k' ob :: r, n, acc => foldH L k r (n + 1) (if L n && k' == k then some ob else acc)
  | .v _ :: r, n, acc => foldH L k r (n + 1) acc
theorem foldH_congr {L L' : Nat → Bool} {k : Nat} : ∀ {es : List Ef} {n : Nat} {acc : Option Ob}, (∀ j ob, es[j]? = some (.st k ob) → L (n + j) = L' (n + j)) → foldH L k es n acc = foldH L' k es n acc
  | [], _, _, _ => rfl
  | .v d :: r, n, acc, h => by
    simp only [foldH]
    exact foldH_congr fun j ob hj => by have := h (j + 1) ob (by simpa using hj); rwa [show n + (j + 1) = n + 1 + j by omega] at this
  | .st k' ob :: r, n, acc, h => by
    simp only [foldH]
    have e : (L n && k' == k) = (L' n && k' == k) := by
      by_cases hk : k' = k
      · subst hk; have := h 0 ob (by simp); simpa using this
      · simp only [beq_false_of_ne hk, Bool.and_false]
    rw [e]
    exact foldH_congr fun j ob hj => by have := h (j + 1) ob (by simpa using hj); rwa [show n + (j + 1) = n + 1 + j by omega] at this
theorem foldH_none {L : Nat → Bool} {k : Nat} : ∀ {es : List Ef} {n : Nat} {acc : Option Ob}, (∀ j ob, es[j]? = some (.st k ob) → L (n + j) = false) → foldH L k es n acc = acc
  | [], _, _, _ => rfl
  | .v d :: r, n, acc, h => by
    simp only [foldH]
    exact foldH_none fun j ob hj => by have := h (j + 1) ob (by simpa using hj); rwa [show n + (j + 1) = n + 1 + j by omega] at this
  | .st k' ob :: r, n, acc, h => by
    simp only [foldH]
    have e : (L n && k' == k) = false := by
      by_cases hk : k' = k
      · subst hk; have := h 0 ob (by simp); simpa using this
      · simp only [beq_false_of_ne hk, Bool.and_false]
    rw [e]
    exact foldH_none fun j ob hj => by have := h (j + 1) ob (by simpa using hj); rwa [show n + (j + 1) = n + 1 + j by omega] at this
/-- the store i comes last -/
theorem foldH_last {L : Nat → Bool} {k : Nat} : ∀ {es : List Ef} {n : Nat} {acc : Option Ob} {i : Nat} {ob : Ob}, es[i]? = some (.st k ob) → L (n + i) = true → (∀ j ob, i < j → es[j]? = some (.st k ob) → L (n + j) = false) → foldH L k es n acc = some ob
  | [], _, _, i, ob, h, _, _ => by simp at h
  | e :: r, n, acc, 0, ob, h, hL, hl => by
    simp at h
    subst h
    simp only [foldH]
    rw [Nat.add_zero] at hL
    rw [hL]
    simp only [BEq.rfl, Bool.and_self, if_true]
    exact foldH_none fun j ob hj => by have := hl (j + 1) ob (by omega) (by simpa using hj); rwa [show n + (j + 1) = n + 1 + j by omega] at this
  | e :: r, n, acc, i + 1, ob, h, hL, hl => by
    have := fun acc => foldH_last (L := L) (k := k) (es := r) (n := n + 1) (acc := acc) (i := i) (ob := ob) (by simpa using h) (by rwa [show n + 1 + i = n + (i + 1) by omega]) (fun j ob hj he => by have := hl (j + 1) ob (by omega) (by simpa using he); rwa [show n + (j + 1) = n + 1 + j by omega] at this)
    cases e <;> simp only [foldH, this]
theorem foldH_shift {L : Nat → Bool} {k m : Nat} : ∀ {es : List Ef} {n : Nat} {acc : Option Ob}, foldH (fun j => L (j + m)) k es n acc = foldH L k es (n + m) acc
  | [], _, _ => rfl
  | .v d :: r, n, acc => by simp only [foldH]; rw [foldH_shift, show n + 1 + m = n + m + 1 by omega]
  | .st k' ob :: r, n, acc => by simp only [foldH]; rw [foldH_shift, show n + 1 + m = n + m + 1 by omega]

/-- the operations of L are done, no other -/
def AtL (ops : List Dr) (es : List Ef) (st : St) (L : Nat → Bool) (s : St) : Prop :=
  s.nt = st.nt ∧ (∀ k, lk s.H k = foldH L k es 0 (lk st.H k)) ∧ ∀ t, (∀ (j : Nat) (o : DOper) (l : List Nat × List Nat) (v : DV), L j = true → ops[j]? = some (o, l) → es[j]? = some (.v v) → o.dst = some t → s.get t = v) ∧
    ((∀ (j : Nat) (o : DOper) (l : List Nat × List Nat), L j = true → ops[j]? = some (o, l) → o.dst ≠ some t) → s.get t = st.get t)

theorem setO_get (st : St) (d : Option Nat) (v : DV) (t : Nat) : (st.setO d v).get t = if d = some t then v else st.get t := by
  cases d with
  | none => simp [St.setO]
  | some d => simp only [St.setO, get_set, Option.some.injEq]
theorem setO_H (st : St) (d : Option Nat) (v : DV) : (st.setO d v).H = st.H := by cases d <;> rfl
theorem eff_nt (st : St) (d : Option Nat) (e : Ef) : (st.eff d e).nt = st.nt := by
  cases e with
  | v v => cases d <;> rfl
  | st k ob => rfl

theorem ch_at {P : Program} {sk : List (Nat × Nat)} {ks : List Nat} {n : Nat} {ops : List Dr} {st st' : St} {es : List Ef} (h : Ch P sk ks n ops st es st') (hnd : dnd ops = true) : es.length = ops.length ∧ AtL ops es st (fun j => decide (j < ops.length)) st' ∧
    ∀ (i : Nat) (o : DOper) (l : List Nat × List Nat), ops[i]? = some (o, l) → ∃ s e, AtL ops es st (fun j => decide (j < i)) s ∧ es[i]? = some e ∧ (∀ k ob, e = .st k ob → lk sk (n + i) = some k) ∧ DE P (s.lim sk ks l) o e := by
  induction h with
  | nil n st => exact ⟨rfl, ⟨rfl, fun k => rfl, fun t => ⟨fun j o l v h => (by simp at h), fun _ => rfl⟩⟩, fun i o l h => (by simp at h)⟩
  | cons n o l e ops es st st' h hk hr ih =>
    have hnd' : dnd ops = true := by simp only [dnd, Bool.and_eq_true] at hnd; exact hnd.2
    obtain ⟨h1, h2, h3⟩ := ih hnd'
    have up : ∀ (L L' : Nat → Bool) (s : St), L' 0 = true → (∀ j, L' (j + 1) = L j) → AtL ops es (st.eff o.dst e) L s → AtL ((o, l) :: ops) (e :: es) st L' s := by
      rintro L L' s hL0 hL1 ⟨g1, g2, g3⟩
      refine ⟨g1.trans (eff_nt _ _ _), fun k => ?_, fun t => ⟨fun j o' l' v' hL ho hv hd => ?_, fun hno => ?_⟩⟩
      · rw [g2 k]
        have hsh : ∀ acc, foldH L k es 0 acc = foldH L' k es 1 acc := by
          intro acc
          have : L = fun j => L' (j + 1) := funext fun j => (hL1 j).symm
          rw [this, foldH_shift]
        cases e with
        | v v => simp only [foldH, St.eff, setO_H, hsh]
        | st k' ob =>
          simp only [foldH, St.eff, hsh, hL0, Bool.true_and, St.upd, lk_cons, beq_iff_eq]
      · cases j with
        | zero =>
          simp at ho hv
          obtain ⟨rfl, rfl⟩ := ho
          subst hv
          rw [(g3 t).2 (fun j o' l' _ hj hd' => by
            have := dnd_spec hnd 0 (j + 1) o o' l l' t (by simp) (by simpa using hj) hd hd'
            omega), St.eff, setO_get, if_pos hd]
        | succ j => exact (g3 t).1 j o' l' v' (by rw [← hL1]; exact hL) (by simpa using ho) (by simpa using hv) hd
      · rw [(g3 t).2 (fun j o' l' hL hj => hno (j + 1) o' l' (by rw [hL1]; exact hL) (by simpa using hj))]
        cases e with
        | v v => rw [St.eff, setO_get, if_neg (hno 0 o l hL0 (by simp))]
        | st k' ob => rfl
    refine ⟨by simp [h1], up _ _ _ (by simp) (fun j => by simp) h2, fun i o' l' hi => ?_⟩
    cases i with
    | zero =>
      simp at hi
      obtain ⟨rfl, rfl⟩ := hi
      exact ⟨st, e, ⟨rfl, fun k => (foldH_none (fun j ob _ => by simp)).symm, fun t => ⟨fun j o l v h => (by simp at h), fun _ => rfl⟩⟩, by simp, by simpa using hk, h⟩
    | succ i =>
      obtain ⟨s, e', g1, g2, g3, g4⟩ := h3 i o' l' (by simpa using hi)
      refine ⟨s, e', up _ _ _ (by simp) (fun j => by simp) g1, by simpa using g2, ?_, g4⟩
      rw [show n + (i + 1) = n + 1 + i by omega]
      exact g3

section
variable {F : Fence} {P : Program} {nt n : Nat} {x : Fx} {st : St}

theorem idxMap_get {α β : Type} (f : Nat → α → β) : ∀ (l : List α) (n i : Nat), (idxMap f n l)[i]? = (l[i]?).map (f (n + i))
  | [], n, i => by simp [idxMap]
  | a :: r, n, 0 => by simp [idxMap]
  | a :: r, n, i + 1 => by
    simp only [idxMap, List.getElem?_cons_succ, idxMap_get f r]
    rw [show n + 1 + i = n + (i + 1) by omega]
theorem idxMap_len {α β : Type} (f : Nat → α → β) : ∀ (l : List α) (n : Nat), (idxMap f n l).length = l.length
  | [], n => rfl
  | a :: r, n => by simp [idxMap, idxMap_len f r]
/-- a store that is not among those without an edge has one -/
theorem bef_spec {o : Oper} {j : Nat} (h : bef o j = true) : ∃ e ∈ o.after, Region.binds .any e = true ∧ e.on = j := by
  unfold bef at h
  rw [List.any_eq_true] at h
  obtain ⟨e, he, h⟩ := h
  simp only [Bool.and_eq_true, beq_iff_eq] at h
  exact ⟨e, by simpa using he, h.1, h.2⟩
theorem unst_mem {arr : Array Oper} {i j : Nat} {oi oj : Oper} (hj : arr[j]? = some oj) (hs : isSt oj.op = true) (he : j ≠ i) (hb : (if j < i then bef oi j else bef oj i) = false) : j ∈ unst arr i oi := by
  unfold unst
  rw [List.mem_filter]
  refine ⟨by simpa using (Array.getElem?_eq_some_iff.1 hj).1, ?_⟩
  simp [hj, hs, he, hb]
theorem unst_edge {arr : Array Oper} {i j : Nat} {oi oj : Oper} (hj : arr[j]? = some oj) (hs : isSt oj.op = true) (h : j ∉ unst arr i oi) : j = i ∨ (j < i ∧ ∃ e ∈ oi.after, Region.binds .any e = true ∧ e.on = j) ∨ (i < j ∧ ∃ e ∈ oj.after, Region.binds .any e = true ∧ e.on = i) := by
  by_cases e : j = i
  · exact .inl e
  · right
    have hlt := (Array.getElem?_eq_some_iff.1 hj).1
    by_cases hji : j < i
    · left
      refine ⟨hji, ?_⟩
      refine bef_spec ?_
      cases hb : bef oi j with
      | true => rfl
      | false => exact (h (unst_mem hj hs e (by rw [if_pos hji]; exact hb))).elim
    · right
      refine ⟨by omega, bef_spec ?_⟩
      cases hb : bef oj i with
      | true => rfl
      | false => exact (h (unst_mem hj hs e (by rw [if_neg hji]; exact hb))).elim

theorem draw_all (hF : Free F) {arr : Array Oper} (hB : Region.lexFrom .any arr arr.size 0 (Array.replicate arr.size false) = true) {ops : List Dr} (hops : ops = idxMap (fun i o => (compOper P nt arr o, o.looksAt arr, unst arr i o)) 0 arr.toList)
    (hnd : dnd ops = true) {sk : List (Nat × Nat)} {ks : List Nat} {vs : List Ef} {st' : St} (hch : Ch P sk ks 0 ops st vs st') (hn : st.nt = nt) {κ : Nat → Nat} {Q : Exit → Act → World → Prop}
    (hQ : ∀ a w s, AtL ops vs st (fun j => decide (j < ops.length)) s → Sat x s κ a w → Q .normal a w) :
    ∀ (fuel : Nat) (listed : Array Bool) (a : Act) (w : World) (s : St), listed.size = arr.size → (listed.toList.countP (· = false)) = fuel →
      (∀ (i : Nat) (o : Oper), arr[i]? = some o → listed.getD i false = true → ∀ e ∈ o.after, Region.binds .any e = true → listed.getD e.on false = true) →
      AtL ops vs st (fun j => listed.getD j false) s → Sat x s κ a w → wpAnyIn F n P .any arr Q fuel listed a w := by
  obtain ⟨hvl, hend, hstep⟩ := ch_at hch hnd
  have hlen : ops.length = arr.size := by rw [hops, idxMap_len]; simp
  have hget : ∀ (i : Nat) (o : Oper), arr[i]? = some o → ops[i]? = some (compOper P nt arr o, o.looksAt arr, unst arr i o) := by
    intro i o h
    rw [hops, idxMap_get, Array.getElem?_toList, h, Nat.zero_add]
    rfl
  have hget' : ∀ (i : Nat) (o : DOper) (l : List Nat × List Nat), ops[i]? = some (o, l) → ∃ oo, arr[i]? = some oo ∧ o = compOper P nt arr oo ∧ l = (oo.looksAt arr, unst arr i oo) := by
    intro i o l h
    rw [hops, idxMap_get, Array.getElem?_toList, Option.map_eq_some_iff, Nat.zero_add] at h
    obtain ⟨oo, h1, h2⟩ := h
    cases h2
    exact ⟨oo, h1, rfl, rfl⟩
  have hdst : ∀ oo : Oper, (compOper P nt arr oo).dst = oo.dst := fun oo => (compOper_op rfl).1
  have lf := lex_facts (md := .any) (ops := arr) arr.size 0 (Array.replicate arr.size false) (by simp) (fun j hj => by simp [hj]) (by simp) hB
  have hdone : ∀ (listed : Array Bool), listed.size = arr.size → (∀ i, i < arr.size → listed.getD i false = true) → ∀ s, AtL ops vs st (fun j => listed.getD j false) s → AtL ops vs st (fun j => decide (j < ops.length)) s := by
    rintro listed hsz hall s ⟨g1, g2, g3⟩
    refine ⟨g1, fun k => ?_, fun t => ⟨fun j o l v hj ho hv hd => (g3 t).1 j o l v (hall j (by simp at hj; omega)) ho hv hd, fun hno => (g3 t).2 fun j o l hL ho => hno j o l ?_ ho⟩⟩
    · rw [g2 k]
      refine foldH_congr fun j ob hj => ?_
      have hlt := (List.getElem?_eq_some_iff.1 hj).1
      rw [Nat.zero_add, hall j (by omega)]
      simp; omega
    · simpa using (List.getElem?_eq_some_iff.1 ho).1
  have hstore : ∀ (j k : Nat) (ob : Ob), vs[j]? = some (.st k ob) → lk sk j = some k ∧ ∃ oj, arr[j]? = some oj ∧ isSt oj.op = true := by
    intro j k ob hj
    have hlt := (List.getElem?_eq_some_iff.1 hj).1
    have hlt' : j < arr.size := by omega
    have hoj : arr[j]? = some arr[j] := Array.getElem?_eq_getElem hlt'
    obtain ⟨s, e, _, g2, g3, g4⟩ := hstep j _ _ (hget j _ hoj)
    rw [hj] at g2
    cases g2
    refine ⟨by have := g3 k ob rfl; rwa [Nat.zero_add] at this, arr[j], hoj, ?_⟩
    cases g4 with
    | st _ ob0 _ m y1 y2 hg hd ho hk hro h hrn =>
      obtain ⟨e1, hcc⟩ := compOper_op (rfl : compOper P nt arr arr[j] = _)
      rcases hcc with ⟨hb1, _⟩ | ⟨e2, _, _⟩
      · rw [hb1] at ho; cases ho
      · rw [e2] at ho
        obtain ⟨t, z1, z2, hop, _⟩ := st_run ho
        rw [hop]; rfl
  -- if nothing is ready all is done
  have hstuck : ∀ (listed : Array Bool), listed.size = arr.size → Region.ready .any arr listed = [] → ∀ i, i < arr.size → listed.getD i false = true := by
    intro listed hsz hr i
    induction i using Nat.strongRecOn with
    | ind i ih =>
      intro hi
      cases hli : listed.getD i false with
      | true => rfl
      | false =>
        exfalso
        have : i ∈ Region.ready .any arr listed := by
          refine mem_ready.2 ⟨?_, arr[i], Array.getElem?_eq_getElem hi, fun e he hb => ?_⟩
          · have hlt : i < listed.size := by omega
            simp [hlt] at hli ⊢
            exact hli
          · have := (lf i (Nat.zero_le _) arr[i] (Array.getElem?_eq_getElem hi)).1 e he hb
            exact ih e.on this (by omega)
        rw [hr] at this
        cases this
  intro fuel
  induction fuel with
  | zero =>
    intro listed a w s hsz hcnt hcl hat hs
    have hall : ∀ i, i < arr.size → listed.getD i false = true := by
      intro i hi
      have hlt : i < listed.size := by omega
      have h0 : ∀ b ∈ listed.toList, ¬ (b = false) := by
        intro b hb
        have := List.countP_eq_zero.1 hcnt b hb
        simpa using this
      have := h0 listed[i] (by simp)
      simpa [hlt] using this
    refine ⟨?_, hQ a w s (hdone listed hsz hall s hat) hs⟩
    apply List.eq_nil_iff_forall_not_mem.2
    intro i hi
    obtain ⟨h0, o, ho, _⟩ := mem_ready.1 hi
    have hi' := (Array.getElem?_eq_some_iff.1 ho).1
    have hlt : i < listed.size := by omega
    have := hall i hi'
    simp [hlt] at this h0
    rw [this] at h0
    cases h0
  | succ fuel ih =>
    intro listed a w s hsz hcnt hcl hat hs
    refine ⟨fun hr => hQ a w s (hdone listed hsz (hstuck listed hsz hr) s hat) hs, fun i hi => ?_⟩
    obtain ⟨h0, oo, hoo, hpre⟩ := mem_ready.1 hi
    have hia := (Array.getElem?_eq_some_iff.1 hoo).1
    have hlt : i < listed.size := by omega
    have hun : listed.getD i false = false := by simp [hlt] at h0 ⊢; exact h0
    obtain ⟨si, ef, hsi, hv, hsk, hy⟩ := hstep i _ _ (hget i oo hoo)
    have hlf := lf i (Nat.zero_le _) oo hoo
    -- what the operation looks at is as in the order of the text
    have hagree : ∀ t, t ∈ oo.looksAt arr → s.get t = si.get t := by
      intro t ht
      by_cases hex : ∃ (j : Nat) (o : DOper) (l : List Nat × List Nat), ops[j]? = some (o, l) ∧ o.dst = some t
      · obtain ⟨j, o, l, hj, hd⟩ := hex
        obtain ⟨oj, hoj, rfl, rfl⟩ := hget' j o l hj
        have hdj : oj.dst = some t := by rw [← hdst]; exact hd
        have huniq : ∀ (j' : Nat) (o' : DOper) (l' : List Nat × List Nat), ops[j']? = some (o', l') → o'.dst = some t → j' = j := fun j' o' l' h1 h2 => dnd_spec hnd j' j o' _ l' _ t h1 hj h2 hd
        have hja := (Array.getElem?_eq_some_iff.1 hoj).1
        have hval : ∃ v, vs[j]? = some (.v v) := by
          obtain ⟨sj, ej, _, q2, _, q4⟩ := hstep j _ _ hj
          cases q4 with
          | v v h => exact ⟨v, q2⟩
          | st k ob0 ob m y1 y2 hg hd' ho hk hro h hrn => rw [hdst, hdj] at hd'; cases hd'
        obtain ⟨vj, hvj⟩ := hval
        by_cases hji : j < i
        · have hL : listed.getD j false = true := by
            rcases (lf j (Nat.zero_le _) oj hoj).2 i oo hji hoo with ⟨e, he, hb, hon⟩ | hap
            · rw [← hon]; exact hpre e he hb
            · exact absurd ht ((Oper.apart_spec hap).1 t hdj)
          rw [(hat.2.2 t).1 j _ _ _ hL hj hvj hd, (hsi.2.2 t).1 j _ _ _ (by simpa using hji) hj hvj hd]
        · have hL : listed.getD j false ≠ true := by
            intro hL
            rcases Nat.eq_or_lt_of_le (Nat.le_of_not_lt hji) with rfl | hlt'
            · rw [hun] at hL; cases hL
            · rcases hlf.2 j oj hlt' hoj with ⟨e, he, hb, hon⟩ | hap
              · have := hcl j oj hoj hL e he hb
                rw [hon, hun] at this
                cases this
              · exact absurd ht ((Oper.apart_spec hap).2.2 t hdj)
          rw [(hat.2.2 t).2 (fun j' o' l' hL' ho' hd' => hL (by rw [← huniq j' o' l' ho' hd']; exact hL')), (hsi.2.2 t).2 (fun j' o' l' hL' ho' hd' => hji (by rw [← huniq j' o' l' ho' hd']; simpa using hL'))]
      · rw [(hat.2.2 t).2 (fun j o l _ ho hd => hex ⟨j, o, l, ho, hd⟩), (hsi.2.2 t).2 (fun j o l _ ho hd => hex ⟨j, o, l, ho, hd⟩)]
    -- the stores on an object that it looks at are done as in the order of the text
    have hord : ∀ (k : Nat), k ∉ dks sk (unst arr i oo) → ∀ j ob, vs[j]? = some (.st k ob) → (listed.getD j false = true ↔ j < i) := by
      intro k hk j ob hj
      obtain ⟨hsk, oj, hoj, hst⟩ := hstore j k ob hj
      rcases unst_edge (i := i) (oi := oo) hoj hst (fun hmem => hk (mem_dks hsk hmem)) with rfl | ⟨hji, e, he, hb, hon⟩ | ⟨hij, e, he, hb, hon⟩
      · rw [hun]; simp
      · have := hpre e he hb
        rw [hon] at this
        simp [this, hji]
      · constructor
        · intro hL
          have := hcl j oj hoj hL e he hb
          rw [hon, hun] at this
          cases this
        · intro h; omega
    have hagreeH : ∀ k, k ∉ dks sk (unst arr i oo) → lk s.H k = lk si.H k := by
      intro k hk
      rw [hat.2.1 k, hsi.2.1 k]
      refine foldH_congr fun j ob hj => ?_
      rw [Nat.zero_add]
      have := hord k hk j ob hj
      by_cases hji : j < i
      · rw [this.2 hji]; simp [hji]
      · cases hl : listed.getD j false with
        | true => exact (hji (this.1 hl)).elim
        | false => simp [hji]
    have hlim : s.lim sk ks (oo.looksAt arr, unst arr i oo) = si.lim sk ks (oo.looksAt arr, unst arr i oo) := lim_congr (hat.1.trans hsi.1.symm) hagreeH hagree
    rw [← hlim] at hy
    have hdnt : ∀ d, oo.dst = some d → d < nt := by
      intro d hd
      obtain ⟨e1, hcc⟩ := compOper_op (rfl : compOper P nt arr oo = _)
      rcases hcc with ⟨hb1, hb2⟩ | ⟨_, e3, _⟩
      · exfalso
        generalize compOper P nt arr oo = o at hy hb1 hb2
        cases hy with
        | v v hy =>
          cases hy with
          | no i want b hg _ _ => rw [hb2] at hg; cases hg
          | und i want hg _ => rw [hb2] at hg; cases hg
          | ev v hg h => rw [hb1] at h; simp [evOp] at h
          | call f l ps r hg ho _ _ => rw [hb1] at ho; cases ho
          | calls f l ps r hg ho _ _ _ => rw [hb1] at ho; cases ho
          | heap st2 p d hg hd h hp => rw [hb1, stepD_bad] at h; cases h
        | st k ob0 ob m y1 y2 hg hd ho hk hro h hrn => rw [hb1] at ho; cases ho
      · exact e3 d hd
    have hset : ∀ j, (listed.setIfInBounds i true).getD j false = true ↔ j = i ∨ listed.getD j false = true := by
      intro j
      by_cases e : i = j
      · subst e; simp [hlt]
      · rw [getD_set_ne false e]
        have : ¬ j = i := fun h => e h.symm
        simp [this]
    have hnext : ∀ u w', Sat x (s.eff oo.dst ef) κ (a.put oo.dst u) w' → wpAnyIn F n P .any arr Q fuel (listed.setIfInBounds i true) (a.put oo.dst u) w' := by
      intro u w' hs'
      refine ih (listed.setIfInBounds i true) _ w' (s.eff oo.dst ef) (by simp [hsz]) ?_ ?_ ?_ hs'
      · have h1 : (listed.setIfInBounds i true).toList = listed.toList.set i true := by simp
        rw [h1, List.countP_set (h := by simpa using hlt)]
        have hf : listed.toList[i]'(by simpa using hlt) = false := by simp [hlt] at hun; simpa using hun
        rw [hcnt]
        simp only [hf]
        simp
      · intro j oj hoj hL e he hb
        have hL := (hset j).1 hL
        refine (hset e.on).2 ?_
        rcases hL with rfl | hL
        · rw [hoo] at hoj; cases hoj
          exact .inr (hpre e he hb)
        · exact .inr (hcl j oj hoj hL e he hb)
      · refine ⟨(eff_nt _ _ _).trans hat.1, fun k => ?_, fun t => ⟨fun j o l v' hL ho hv' hd => ?_, fun hno => ?_⟩⟩
        · have hsame : (∀ ob, ef ≠ .st k ob) → foldH (fun j => (listed.setIfInBounds i true).getD j false) k vs 0 (lk st.H k) = foldH (fun j => listed.getD j false) k vs 0 (lk st.H k) := by
            intro hne
            refine foldH_congr fun j ob hj => ?_
            rw [Nat.zero_add]
            have hji : j ≠ i := by
              rintro rfl
              rw [hv] at hj
              exact hne ob (by simpa using hj)
            show (listed.setIfInBounds i true).getD j false = _
            rw [getD_set_ne false (Ne.symm hji)]
          cases ef with
          | v v => rw [hsame (fun ob h => by cases h), ← hat.2.1 k, St.eff, setO_H]
          | st k' ob =>
            by_cases hk : k' = k
            · subst hk
              rw [foldH_last hv (by rw [Nat.zero_add]; exact (hset i).2 (.inl rfl)) (fun j ob' hij hj => ?_)]
              · simp [St.eff, St.upd, lk]
              · rw [Nat.zero_add]
                cases hl : (listed.setIfInBounds i true).getD j false with
                | false => rfl
                | true =>
                  exfalso
                  have hnk : k' ∉ dks sk (unst arr i oo) := by
                    cases hy with
                    | st _ ob0 _ m y1 y2 hg hd ho hk hro h hrn => exact (lk_canH hk).2
                  rcases (hset j).1 hl with rfl | hl
                  · omega
                  · have := (hord k' hnk j ob' hj).1 hl
                    omega
            · rw [hsame (fun ob h => by cases h; exact hk rfl), ← hat.2.1 k]
              simp [St.eff, St.upd, lk, hk]
        · have hL2 := (hset j).1 hL
          rcases hL2 with rfl | hL2
          · rw [hget j oo hoo] at ho
            cases ho
            rw [hv] at hv'
            cases hv'
            rw [hdst] at hd
            rw [St.eff, setO_get, if_pos hd]
          · by_cases hoot : oo.dst = some t
            · have : j = i := dnd_spec hnd j i o _ l _ t ho (hget i oo hoo) hd (by rw [hdst]; exact hoot)
              subst this
              rw [hun] at hL2; cases hL2
            · have : (s.eff oo.dst ef).get t = s.get t := by
                cases ef with
                | v v => rw [St.eff, setO_get, if_neg hoot]
                | st k ob => rfl
              rw [this]; exact (hat.2.2 t).1 j o l v' hL2 ho hv' hd
        · have : (s.eff oo.dst ef).get t = s.get t := by
            cases ef with
            | v v => rw [St.eff, setO_get, if_neg (by rw [← hdst]; exact hno i _ _ ((hset i).2 (.inl rfl)) (hget i oo hoo))]
            | st k ob => rfl
          rw [this]
          exact (hat.2.2 t).2 fun j o l hL ho => hno j o l ((hset j).2 (.inr hL)) ho
    cases ef with
    | st k ob => exact draw_st hF hs hoo (hat.1.trans hn) hy fun w' hs' => hnext undef w' hs'
    | v v =>
      cases hy with
      | v _ hy =>
      refine draw_op hF hs hoo (hat.1.trans hn) hy fun u w' hfr hu => hnext u w' ?_
      show Sat x (s.setO oo.dst v) κ (a.put oo.dst u) w'
      cases hd : oo.dst with
      | none => exact hs.world hfr
      | some d =>
        refine (hs.world hfr).set d ?_ v u hu
        rw [hat.1, hn]
        exact hdnt d hd

theorem Fr.drawn (X : Nat → Prop) (w : World) : Fr X w { w with drawn := w.drawn + 1 } := ⟨rfl, rfl, rfl, Nat.le_refl _, fun _ _ _ => rfl, fun _ cur _ fr h => ⟨cur, fr, h, rfl⟩⟩

theorem sub_of_at {ops : List Dr} {vs : List Ef} {s s' : St} {L : Nat → Bool} (hvl : vs.length = ops.length) (hlt : ∀ j, L j = true → j < ops.length) (hval : ∀ (j : Nat) (o : DOper) (l : List Nat × List Nat) (t : Nat), ops[j]? = some (o, l) → o.dst = some t → ∃ v, vs[j]? = some (.v v)) (h : AtL ops vs st L s) (h' : AtL ops vs st L s') : s.Sub s' := by
  have hg : ∀ t, s.get t = s'.get t := by
    intro t
    by_cases hex : ∃ (j : Nat) (o : DOper) (l : List Nat × List Nat), L j = true ∧ ops[j]? = some (o, l) ∧ o.dst = some t
    · obtain ⟨j, o, l, hL, hj, hd⟩ := hex
      obtain ⟨v, hvj⟩ := hval j o l t hj hd
      rw [(h.2.2 t).1 j o l _ hL hj hvj hd, (h'.2.2 t).1 j o l _ hL hj hvj hd]
    · rw [(h.2.2 t).2 (fun j o l hL ho hd => hex ⟨j, o, l, hL, ho, hd⟩), (h'.2.2 t).2 (fun j o l hL ho hd => hex ⟨j, o, l, hL, ho, hd⟩)]
  refine ⟨h'.1.trans h.1.symm, fun i d hd => ?_, fun k ob hk => by rw [h.2.1, ← h'.2.1]; exact hk⟩
  have := hg i
  unfold St.get at this
  rw [hd] at this
  cases hl : lk s.T i with
  | none => rw [hl] at this; exact .inr this.symm
  | some d' => rw [hl] at this; simp only at this; rw [this]; exact .inl rfl

theorem ok_draw [G : DGood P] (hF : Free F) {Q : Exit → St → Prop} {ops : List Dr} (hnd : dnd ops = true) {sk : List (Nat × Nat)} {ks : List Nat} {vs : List Ef} {st' : St} (hch : Ch P sk ks 0 ops st vs st') (hQ : Q .normal st') : Ok F P nt x (.draw ops) Q st := by
  intro hn c hdo hc n κ a w hs
  cases c <;> first
    | (simp [compCode] at hc; done)
    | skip
  rename_i id arr draw
  simp only [compCode] at hc
  split at hc
  · rename_i hd
    simp only [DCode.draw.injEq] at hc
    obtain rfl : draw = true := by simpa using hd
    simp only [dOk, Bool.not_true, Bool.false_or, Region.lexB, Bool.and_eq_true] at hdo
    obtain ⟨hvl, hend, hst⟩ := ch_at hch hnd
    have hval : ∀ (j : Nat) (o : DOper) (l : List Nat × List Nat) (t : Nat), ops[j]? = some (o, l) → o.dst = some t → ∃ v, vs[j]? = some (.v v) := by
      intro j o l t hj hd
      obtain ⟨s, e, _, g2, _, g4⟩ := hst j o l hj
      cases g4 with
      | v v h => exact ⟨v, g2⟩
      | st k ob0 ob m y1 y2 hg hd' ho hk hro h hrn => rw [hd] at hd'; cases hd'
    refine wpIn_region_any G.mixed (draw_all hF hdo.2 hc.symm hnd hch hn (κ := κ) (fun a w s hat hs => ?_) arr.size _ a _ st (by simp) (by simp [List.countP_replicate]) (fun i o _ hL => ?_) ⟨rfl, fun k => (foldH_none fun j ob _ => ?_).symm, fun t => ⟨fun j o l v hL => ?_, fun _ => rfl⟩⟩ (hs.world (Fr.drawn _ w)))
    · have hs' := hs.sub (sub_of_at hvl (fun j h => by simpa using h) hval hat hend)
      exact ⟨st', κ, hQ, hs', hend.1.trans hn⟩
    · exfalso
      by_cases hi : i < arr.size <;> simp [hi] at hL
    · rw [Nat.zero_add]
      by_cases hi : j < arr.size <;> simp [hi]
    · exfalso
      by_cases hi : j < arr.size <;> simp [hi] at hL
  · cases hc
end

/-! ### what is owed, reckoned by simp -/

def dcall (P : Program) (f : Nat) (l : List DOpd) (st : St) (k : DV → Prop) : Prop :=
  ∃ ps r, ((pures (l.map st.ev) = some ps ∧ PCall P f (ps.map PV.norm) (· = r)) ∨ (snapL st (l.map st.ev) = some ps ∧ PCall P f ps (· = r) ∧ r.scalar = true)) ∧ k (.p r)
def isHp : DOp → Bool
  | .alloc _ => true
  | .box _ _ => true
  | .bsl _ _ _ _ => true
  | .mks _ _ _ _ _ => true
  | .app _ _ _ _ => true
  | _ => false
def dheap (o : DOper) (st : St) (k : DV → Prop) : Prop := match o.dst with
  | some d => match stepD ⟨st.nt, st.T, []⟩ (some d) o.op with
    | some st2 => match snap st2 (st2.get d) with
      | some p => k (.p p)
      | none => False
    | none => False
  | none => False
def KV (k : Ef → Prop) (v : DV) : Prop := k (.v v)
def dst1 (o : DOper) (st : St) (sn : Option Nat) (k : Ef → Prop) : Prop := match sn with
  | some j => match lk st.H j with
    | some ob0 => match stepD ⟨st.nt, st.T, [(j, ob0)]⟩ none o.op with
      | some st2 => match lk st2.H j with
        | some ob => o.dst = none ∧ k (.st j ob)
        | none => False
      | none => False
    | none => False
  | none => False
def dv1 (P : Program) (o : DOper) (st : St) (sn : Option Nat) (k : Ef → Prop) : Prop := match o.op with
  | .call f l => dcall P f l st (KV k)
  | .pick c a b => match st.ev c with
    | .p (.bool t) => if t = true then k (.v (st.ev a)) else k (.v (st.ev b))
    | _ => False
  | .st _ _ _ => dst1 o st sn k
  | op => if isHp op then dheap o st (KV k) else match evOp st op with
    | some v => k (.v v)
    | none => False
def dvc (P : Program) (sk : List (Nat × Nat)) (ks : List Nat) : Nat → List Dr → (St → Prop) → St → Prop
  | _, [], R, st => R st
  | n, (o, l) :: ops, R, st => match o.g with
    | none => dv1 P o (st.lim sk ks l) (lk sk n) (fun e => dvc P sk ks (n + 1) ops R (st.eff o.dst e))
    | some (i, want) => match (st.lim sk ks l).get i with
      | .p (.bool b) => if b = want then dv1 P o (st.lim sk ks l) (lk sk n) (fun e => dvc P sk ks (n + 1) ops R (st.eff o.dst e)) else dvc P sk ks (n + 1) ops R (st.setO o.dst (.p (.tup [])))
      | .p (.tup []) => dvc P sk ks (n + 1) ops R (st.setO o.dst (.p (.tup [])))
      | _ => False

theorem st_shape {nt n k : Nat} {T : List (Nat × DV)} {ob0 : Ob} {y1 y2 : DOpd} {st2 : St} (h : stepD ⟨nt, T, [(k, ob0)]⟩ none (.st n y1 y2) = some st2) : ob0.ro = false ∧ ∃ ob, st2 = St.upd ⟨nt, T, [(k, ob0)]⟩ k ob ∧ ob.ro = false := by
  simp only [stepD] at h
  split at h
  · rename_i k' sz i off hn0 he
    simp only [lk_cons, lk] at h
    by_cases e : k = k'
    · subst e
      simp only [if_true] at h
      split at h
      · rename_i hc
        split at h
        · split at h
          · split at h
            · cases h; exact ⟨hc.1, _, rfl, hc.1⟩
            · cases h
          · cases h
        · split at h
          · split at h
            · cases h; exact ⟨hc.1, _, rfl, hc.1⟩
            · cases h
          · cases h
      · cases h
    · simp only [if_neg e] at h
      cases h
  · cases h

section
variable {F : Fence} {P : Program} {nt : Nat} {x : Fx} {st : St}

theorem dv1_dy {o : DOper} {st : St} {sn : Option Nat} {k : Ef → Prop} (hg : gOk st o.g) (h : dv1 P o st sn k) : ∃ e, DE P st o e ∧ (∀ j ob, e = .st j ob → sn = some j) ∧ k e := by
  obtain ⟨dst, op, g⟩ := o
  have hev : ∀ op, (match evOp st op with | some v => k (.v v) | none => False) → op = op → ∃ v, evOp st op = some v ∧ k (.v v) := by
    intro op h _
    split at h
    · rename_i v hv; exact ⟨v, hv, h⟩
    · exact h.elim
  have val : (∃ v, DY P st ⟨dst, op, g⟩ v ∧ k (.v v)) → ∃ e, DE P st ⟨dst, op, g⟩ e ∧ (∀ j ob, e = .st j ob → sn = some j) ∧ k e := by
    rintro ⟨v, h1, h2⟩
    exact ⟨.v v, .v v h1, fun j ob h => (by cases h), h2⟩
  have hhp : ∀ op, dheap ⟨dst, op, g⟩ st (KV k) → ∃ v, DY P st ⟨dst, op, g⟩ v ∧ k (.v v) := by
    intro op h
    simp only [dheap] at h
    split at h
    · rename_i d hd
      split at h
      · rename_i st2 h2
        split at h
        · rename_i p hp
          exact ⟨_, .heap st2 p d hg rfl h2 hp, h⟩
        · exact h.elim
      · exact h.elim
    · exact h.elim
  cases op <;> first
    | (obtain ⟨ps, r, (⟨h1, h2⟩ | ⟨h1, h2, h3⟩), h4⟩ := h
       · exact val ⟨_, .call _ _ ps r hg rfl h1 h2, h4⟩
       · exact val ⟨_, .calls _ _ ps r hg rfl h1 h2 h3, h4⟩)
    | (simp only [dv1, dst1] at h
       split at h
       · rename_i j
         split at h
         · rename_i ob0 hob0
           split at h
           · rename_i st2 hst2
             split at h
             · rename_i ob hob
               obtain ⟨h1, ob', rfl, h2⟩ := st_shape hst2
               simp only [St.upd, lk_cons, if_true, Option.some.injEq] at hob
               subst hob
               exact ⟨.st j ob', .st j ob0 ob' _ _ _ hg h.1 rfl hob0 h1 hst2 h2, fun j' ob2 he => (by cases he; rfl), h.2⟩
             · exact h.elim
           · exact h.elim
         · exact h.elim
       · exact h.elim)
    | (simp only [dv1, isHp, if_true] at h
       exact val (hhp _ h))
    | (simp only [dv1, isHp, Bool.false_eq_true, if_false] at h
       obtain ⟨v, h1, h2⟩ := hev _ h rfl
       exact val ⟨v, .ev v hg h1, h2⟩)
    | (simp only [dv1] at h
       split at h
       · rename_i t ht
         cases t
         · exact val ⟨_, .ev _ hg (by simp only [evOp, ht]; rfl), h⟩
         · exact val ⟨_, .ev _ hg (by simp only [evOp, ht]; rfl), h⟩
       · exact h.elim)
    | exact val ⟨_, .ev _ hg rfl, h⟩
    | (simp [dv1, isHp, evOp] at h; done)

theorem dvc_ch (sk : List (Nat × Nat)) (ks : List Nat) : ∀ (n : Nat) (ops : List Dr) {R : St → Prop} {st : St}, dvc P sk ks n ops R st → ∃ es st', Ch P sk ks n ops st es st' ∧ R st'
  | n, [], R, st, h => ⟨[], st, .nil n st, h⟩
  | n, (o, l) :: ops, R, st, h => by
    simp only [dvc] at h
    split at h
    · rename_i hg
      obtain ⟨e, h1, h0, h2⟩ := dv1_dy (by rw [hg]; trivial) h
      obtain ⟨es, st', h3, h4⟩ := dvc_ch sk ks (n + 1) ops h2
      exact ⟨e :: es, st', .cons n o l e ops es st st' h1 h0 h3, h4⟩
    · rename_i i want hg
      split at h
      · rename_i b hb
        by_cases hbw : b = want
        · rw [if_pos hbw] at h
          obtain ⟨e, h1, h0, h2⟩ := dv1_dy (by rw [hg]; show (st.lim sk ks l).get i = _; rw [hb, hbw]) h
          obtain ⟨es, st', h3, h4⟩ := dvc_ch sk ks (n + 1) ops h2
          exact ⟨e :: es, st', .cons n o l e ops es st st' h1 h0 h3, h4⟩
        · rw [if_neg hbw] at h
          obtain ⟨es, st', h3, h4⟩ := dvc_ch sk ks (n + 1) ops h
          exact ⟨.v (.p (.tup [])) :: es, st', .cons n o l (.v _) ops es st st' (.v _ (.no i want b hg hb hbw)) (fun _ _ h => by cases h) h3, h4⟩
      · rename_i hb
        obtain ⟨es, st', h3, h4⟩ := dvc_ch sk ks (n + 1) ops h
        exact ⟨.v (.p (.tup [])) :: es, st', .cons n o l (.v _) ops es st st' (.v _ (.und i want hg hb)) (fun _ _ h => by cases h) h3, h4⟩
      · exact h.elim

/-- a draw whose stores, by their places, change the objects that sk tells -/
theorem vc_drawS [DGood P] (hF : Free F) (sk : List (Nat × Nat)) {Q : Exit → St → Prop} {ops : List Dr} (hnd : dnd ops = true) (h : dvc P sk (st.H.map (·.1)) 0 ops (Q .normal) st) : Ok F P nt x (.draw ops) Q st := by
  obtain ⟨es, st', h1, h2⟩ := dvc_ch sk _ 0 ops h
  exact ok_draw hF hnd h1 h2
theorem vc_draw [DGood P] (hF : Free F) {Q : Exit → St → Prop} {ops : List Dr} (hnd : dnd ops = true) (h : dvc P [] (st.H.map (·.1)) 0 ops (Q .normal) st) : Ok F P nt x (.draw ops) Q st := vc_drawS hF [] hnd h
end
end Go.Dl
set_option linter.unusedVariables false
set_option linter.unusedSimpArgs false
namespace Go.Dl

def KD (P : Program) (sk : List (Nat × Nat)) (ks : List Nat) (n : Nat) (o : DOper) (ops : List Dr) (R : St → Prop) (st : St) (e : Ef) : Prop := dvc P sk ks n ops R (st.eff o.dst e)
@[simp] theorem KD_eq (P : Program) (sk : List (Nat × Nat)) (ks : List Nat) (n : Nat) (o : DOper) (ops : List Dr) (R : St → Prop) (st : St) (e : Ef) : KD P sk ks n o ops R st e = dvc P sk ks n ops R (st.eff o.dst e) := propext Iff.rfl
@[simp] theorem KV_eq (k : Ef → Prop) (v : DV) : KV k v = k (.v v) := propext Iff.rfl
@[simp] theorem dvc_nil (P : Program) (sk : List (Nat × Nat)) (ks : List Nat) (n : Nat) (R : St → Prop) (st : St) : dvc P sk ks n [] R st = R st := propext Iff.rfl
@[simp] theorem dvc_cons (P : Program) (sk : List (Nat × Nat)) (ks : List Nat) (n : Nat) (o : DOper) (l : List Nat × List Nat) (ops : List Dr) (R : St → Prop) (st : St) : dvc P sk ks n ((o, l) :: ops) R st = (match o.g with
    | none => dv1 P o (st.lim sk ks l) (lk sk n) (KD P sk ks (n + 1) o ops R st)
    | some (i, want) => match (st.lim sk ks l).get i with
      | .p (.bool b) => if b = want then dv1 P o (st.lim sk ks l) (lk sk n) (KD P sk ks (n + 1) o ops R st) else dvc P sk ks (n + 1) ops R (st.setO o.dst (.p (.tup [])))
      | .p (.tup []) => dvc P sk ks (n + 1) ops R (st.setO o.dst (.p (.tup [])))
      | _ => False) := propext Iff.rfl
attribute [simp] dv1 dst1 dheap isHp St.lim St.setO St.eff dks canH

theorem dcall_p {P : Program} {f : Nat} {l : List DOpd} {st : St} {k : DV → Prop} {ps : List PV} (r : PV) (hp : pures (l.map st.ev) = some ps) (hc : PCall P f (ps.map PV.norm) (· = r)) (hk : k (.p r)) : dcall P f l st k :=
  ⟨ps, r, .inl ⟨hp, hc⟩, hk⟩
theorem dcall_s {P : Program} {f : Nat} {l : List DOpd} {st : St} {k : DV → Prop} {ps : List PV} (r : PV) (hp : snapL st (l.map st.ev) = some ps) (hc : PCall P f ps (· = r)) (hs : r.scalar = true) (hk : k (.p r)) : dcall P f l st k :=
  ⟨ps, r, .inr ⟨hp, hc, hs⟩, hk⟩
end Go.Dl
set_option linter.unusedVariables false
set_option linter.unusedSimpArgs false
namespace Go.Dl

theorem PRel.nilcase {w : World} {S : Nat → Prop} {sz : Nat} {rows sp : List (List PV)} {v : Value} (h : PRel w S (.sl none sz rows sp) v) :
    PRel w S (.sl (some false) sz rows sp) v ∨ (rows = [] ∧ sp = [] ∧ PRel w S (.sl (some true) sz [] []) v) := by
  cases h with
  | slnil o sz ho => exact .inr ⟨rfl, rfl, .slnil _ _ (by simp)⟩
  | slz o sz ho a => exact .inl (.slz (some false) _ (by simp) _)
  | sl o ho sz rows spare b off cap f h1 hb hsz hcap hmax hcell hrel => exact .inl (.sl (some false) (by simp) sz rows sp b off cap f h1 hb hsz hcap hmax hcell hrel)

section
variable {F : Fence} {P : Program} {nt : Nat} {x : Fx} {st : St} {f : FuncId}

theorem PCall.nilcase (l1 : List PV) {l2 : List PV} {sz : Nat} {rows sp : List (List PV)} {R : PV → Prop} (h1 : PCall P f (l1 ++ .sl (some false) sz rows sp :: l2) R)
    (h2 : rows = [] → sp = [] → PCall P f (l1 ++ .sl (some true) sz [] [] :: l2) R) : PCall P f (l1 ++ .sl none sz rows sp :: l2) R := by
  intro w S vs hS hl hrel
  have hk : l1.length < vs.length := by rw [← hl]; simp
  have hv := hrel l1.length (.sl none sz rows sp) vs[l1.length] (by simp) (List.getElem?_eq_getElem hk)
  have key : ∀ p : PV, PRel w S p vs[l1.length] → ∀ (i : Nat) (c : PV) (v : Value), (l1 ++ p :: l2)[i]? = some c → vs[i]? = some v → PRel w S c v := by
    intro p hp i c v hc hv'
    by_cases e : i = l1.length
    · subst e
      simp at hc
      subst hc
      rw [List.getElem?_eq_getElem hk] at hv'
      cases hv'
      exact hp
    · refine hrel i c v ?_ hv'
      rcases Nat.lt_or_gt_of_ne e with e | e
      · rw [List.getElem?_append_left e] at hc ⊢; exact hc
      · rw [List.getElem?_append_right (by omega)] at hc ⊢
        obtain ⟨m, hm⟩ : ∃ m, i - l1.length = m + 1 := ⟨i - l1.length - 1, by omega⟩
        rw [hm] at hc ⊢
        simpa using hc
  rcases hv.nilcase with h | ⟨r1, r2, h⟩
  · exact h1 w S vs hS (by simpa using hl) (key _ h)
  · exact h2 r1 r2 w S vs hS (by simpa using hl) (key _ h)

theorem MCall.nilcase (l1 : List DV) {l2 : List DV} {H0 : List (Nat × Ob)} {sz : Nat} {rows sp : List (List PV)} {R : DV → List (Nat × Ob) → Prop} (h1 : MCall P f (l1 ++ .p (.sl (some false) sz rows sp) :: l2) H0 R)
    (h2 : rows = [] → sp = [] → MCall P f (l1 ++ .p (.sl (some true) sz [] []) :: l2) H0 R) : MCall P f (l1 ++ .p (.sl none sz rows sp) :: l2) H0 R := by
  intro x κ w vs hds hpin hs hl hrel
  have hk : l1.length < vs.length := by rw [← hl]; simp
  have hv := hrel l1.length (.p (.sl none sz rows sp)) vs[l1.length] (by simp) (List.getElem?_eq_getElem hk)
  have key : ∀ p : DV, DRel w (x.S ⟨0, [], H0⟩ κ) κ p vs[l1.length] → ∀ (i : Nat) (c : DV) (v : Value), (l1 ++ p :: l2)[i]? = some c → vs[i]? = some v → DRel w (x.S ⟨0, [], H0⟩ κ) κ c v := by
    intro p hp i c v hc hv'
    by_cases e : i = l1.length
    · subst e
      simp at hc
      subst hc
      rw [List.getElem?_eq_getElem hk] at hv'
      cases hv'
      exact hp
    · refine hrel i c v ?_ hv'
      rcases Nat.lt_or_gt_of_ne e with e | e
      · rw [List.getElem?_append_left e] at hc ⊢; exact hc
      · rw [List.getElem?_append_right (by omega)] at hc ⊢
        obtain ⟨m, hm⟩ : ∃ m, i - l1.length = m + 1 := ⟨i - l1.length - 1, by omega⟩
        rw [hm] at hc ⊢
        simpa using hc
  cases hv with | p _ _ hv =>
  rcases hv.nilcase with h | ⟨r1, r2, h⟩
  · exact h1 x κ w vs hds hpin hs (by simpa using hl) (key _ (.p _ _ h))
  · exact h2 r1 r2 x κ w vs hds hpin hs (by simpa using hl) (key _ (.p _ _ h))

/-- a slot is seen otherwise -/
theorem Sat.reslot {κ : Nat → Nat} {a : Act} {w : World} (h : Sat x st κ a w) (i : Nat) (d : DV) (hd : DRel w (x.S st κ) κ d (a.tmps.getD i undef)) : Sat x (st.set i d) κ a w where
  ds := h.ds
  nt := h.nt
  T := by
    intro j d' hj
    simp only [St.set, lk_cons] at hj
    split at hj
    · rename_i e; subst e; cases hj; exact hd
    · exact h.T j d' hj
  H := h.H
  inj := h.inj
  mine := h.mine
  fr := h.fr
  s0 := h.s0
  pin := h.pin

theorem Sat.nilcase {κ : Nat → Nat} {a : Act} {w : World} (h : Sat x st κ a w) (i : Nat) {sz : Nat} {rows sp : List (List PV)} (hi : st.get i = .p (.sl none sz rows sp)) :
    Sat x (st.set i (.p (.sl (some false) sz rows sp))) κ a w ∨ (rows = [] ∧ sp = [] ∧ Sat x (st.set i (.p (.sl (some true) sz [] []))) κ a w) := by
  have hg := h.get i
  rw [hi] at hg
  cases hg with | p _ _ hg =>
  rcases hg.nilcase with h' | ⟨r1, r2, h'⟩
  · exact .inl (h.reslot i _ (.p _ _ h'))
  · exact .inr ⟨r1, r2, h.reslot i _ (.p _ _ h')⟩

theorem oks_nilcase (i : Nat) {sz : Nat} {rows sp : List (List PV)} (hi : st.get i = .p (.sl none sz rows sp)) {ops : List DOper} {R : St → Prop} (h1 : OkOps F P nt x ops R (st.set i (.p (.sl (some false) sz rows sp))))
    (h2 : rows = [] → sp = [] → OkOps F P nt x ops R (st.set i (.p (.sl (some true) sz [] [])))) : OkOps F P nt x ops R st := by
  intro hn arr idx hidx n κ a w hs K hK
  rcases hs.nilcase i hi with h | ⟨r1, r2, h⟩
  · exact h1 hn arr idx hidx n κ a w h K hK
  · exact h2 r1 r2 hn arr idx hidx n κ a w h K hK
theorem ok_nilcase (i : Nat) {sz : Nat} {rows sp : List (List PV)} (hi : st.get i = .p (.sl none sz rows sp)) {dc : DCode} {Q : Exit → St → Prop} (h1 : Ok F P nt x dc Q (st.set i (.p (.sl (some false) sz rows sp))))
    (h2 : rows = [] → sp = [] → Ok F P nt x dc Q (st.set i (.p (.sl (some true) sz [] [])))) : Ok F P nt x dc Q st := by
  intro hn c hd hc n κ a w hs
  rcases hs.nilcase i hi with h | ⟨r1, r2, h⟩
  · exact h1 hn c hd hc n κ a w h
  · exact h2 r1 r2 hn c hd hc n κ a w h
end

/-- operations from here on, reckoned -/
theorem oks_vc {F : Fence} {P : Program} {nt : Nat} {x : Fx} {st : St} (hF : Free F) {ops : List DOper} {R : St → Prop} (h : VCn F P nt x ops R st) : OkOps F P nt x ops R st := vcops_ok hF ops h
end Go.Dl
