/- Objects that turn pure for good; calls with them; calls that change an object. -/
import Derived.Test.YtjmhdfcmghmgjaaDoorDlK
set_option linter.unusedVariables false
set_option linter.unusedSimpArgs false
namespace Go.Dl

def DV.purgeL : List Nat → DV → DV
  | [], d => d
  | k :: ks, d => DV.purgeL ks (d.purge k)
/-- a value, the objects ks turned pure -/
def frzD (st : St) (ks : List Nat) (d : DV) : DV := match snap0 (st.only ks) d with
  | some p => .p p
  | none => d.purgeL ks
def frzT (st : St) (ks : List Nat) : List (Nat × DV) → List (Nat × DV)
  | [] => []
  | (i, d) :: r => (i, frzD st ks d) :: frzT st ks r
def frzRows (st : St) (ks : List Nat) : Rows → Rows
  | .p r => .p r
  | .m r => .m (r.map (·.map (frzD st ks)))
def frzH (st : St) (ks : List Nat) : List (Nat × Ob) → List (Nat × Ob)
  | [] => []
  | (k, ob) :: r => if ks.contains k then frzH st ks r else (k, { ob with rows := frzRows st ks ob.rows }) :: frzH st ks r
def St.frz (st : St) (ks : List Nat) : St := ⟨st.nt, frzT st ks st.T, frzH st ks st.H⟩

section
variable {x : Fx} {st : St}

theorem lk_frzT (ks : List Nat) (s0 : St) : ∀ (T : List (Nat × DV)) (i : Nat), lk (frzT s0 ks T) i = (lk T i).map (frzD s0 ks)
  | [], i => rfl
  | (j, d) :: r, i => by
    simp only [frzT, lk_cons, lk_frzT ks s0 r i]
    split <;> rfl
theorem lk_frzH (ks : List Nat) (s0 : St) : ∀ (H : List (Nat × Ob)) (i : Nat), lk (frzH s0 ks H) i = if ks.contains i then none else (lk H i).map fun ob => { ob with rows := frzRows s0 ks ob.rows }
  | [], i => by simp [frzH, lk]
  | (j, ob) :: r, i => by
    simp only [frzH]
    by_cases hj : ks.contains j
    · rw [if_pos hj, lk_frzH ks s0 r i]
      simp only [lk_cons]
      by_cases e : j = i
      · subst e; rw [if_pos hj, if_pos hj]
      · rw [if_neg e]
    · rw [if_neg hj]
      simp only [lk_cons, lk_frzH ks s0 r i]
      by_cases e : j = i
      · subst e; rw [if_pos rfl, if_pos rfl, if_neg hj]; rfl
      · rw [if_neg e, if_neg e]

theorem DRel.purgeL {w : World} {S : Nat → Prop} {κ : Nat → Nat} : ∀ (ks : List Nat) {d : DV} {v : Value}, DRel w S κ d v → DRel w S κ (d.purgeL ks) v
  | [], d, v, h => h
  | k :: ks, d, v, h => DRel.purgeL ks (h.purge k (fun _ _ => rfl))

theorem Rows.at_frz (s0 : St) (ks : List Nat) (r : Rows) (i j : Nat) (d : DV) (h : (frzRows s0 ks r).at i j = some d) : ∃ d', r.at i j = some d' ∧ (d = d' ∧ (∃ p, d' = .p p) ∨ d = frzD s0 ks d') := by
  cases r with
  | p r =>
    simp only [frzRows] at h
    refine ⟨d, h, .inl ⟨rfl, ?_⟩⟩
    simp only [Rows.at, Option.map_eq_some_iff] at h
    obtain ⟨c, _, rfl⟩ := h
    exact ⟨c, rfl⟩
  | m r =>
    simp only [frzRows, Rows.at, rowAt, List.getElem?_map] at h ⊢
    cases hr : r[i]? with
    | none => simp [hr] at h
    | some row =>
      simp only [hr, Option.map_some, Option.bind_some, List.getElem?_map] at h ⊢
      cases hc : row[j]? with
      | none => simp [hc] at h
      | some c => simp only [hc, Option.map_some, Option.some.injEq] at h; exact ⟨c, rfl, .inr h.symm⟩
theorem Rows.len_frz (s0 : St) (ks : List Nat) (r : Rows) : (frzRows s0 ks r).len = r.len := by cases r <;> simp [frzRows, Rows.len]
theorem Rows.wf_frz {r : Rows} {sz : Nat} (s0 : St) (ks : List Nat) (h : r.wf sz) : (frzRows s0 ks r).wf sz := by
  cases r with
  | p r => exact h
  | m r =>
    intro row hr
    simp only [List.mem_map] at hr
    obtain ⟨q, hq, rfl⟩ := hr
    rw [List.length_map]; exact h q hq

theorem Sat.frz {κ : Nat → Nat} {a : Act} {w : World} (h : Sat x st κ a w) (ks : List Nat) : Sat x (st.frz ks) κ a w := by
  have hold : ∀ {i : Nat} {ob' : Ob}, lk (st.frz ks).H i = some ob' → i ∉ ks ∧ ∃ o, lk st.H i = some o ∧ ob' = { o with rows := frzRows st ks o.rows } := by
    intro i ob' hi
    simp only [St.frz, lk_frzH] at hi
    split at hi
    · cases hi
    · rename_i hk
      cases hl : lk st.H i with
      | none => simp [hl] at hi
      | some o => simp only [hl, Option.map_some, Option.some.injEq] at hi; exact ⟨by simpa using hk, o, rfl, hi.symm⟩
  have hS : ∀ c, c < w.heap.size → x.S (st.frz ks) κ c → x.S st κ c := by
    rintro c _ (hs | ⟨i, ob', hi, hro', he⟩)
    · exact .inl hs
    · obtain ⟨_, o, ho, rfl⟩ := hold hi
      exact .inr ⟨i, o, ho, hro', he⟩
  have hK : ∀ k sz rows, (st.only ks).pob k sz = some rows → ¬ x.S (st.frz ks) κ (κ k) := by
    intro k sz rows hp hs
    obtain ⟨hp', hk⟩ := only_pob hp
    obtain ⟨ro, hl⟩ := pob_at hp'
    rcases hs with hs | ⟨i, ob', hi, hro', he⟩
    · exact (h.mine k _ hl).2 hs
    · obtain ⟨hi', o, ho, _⟩ := hold hi
      exact hi' (by rw [h.inj _ _ _ _ ho hl he]; exact hk)
  have hm : ∀ {d : DV} {v : Value}, DRel w (x.S st κ) κ d v → DRel w (x.S (st.frz ks) κ) κ (frzD st ks d) v := by
    intro d v hd
    unfold frzD
    cases hsn : snap0 (st.only ks) d with
    | some p => exact .p _ _ (snap0_rel h (st0 := st.only ks) (fun k sz rows h => (only_pob h).1) hS hK hd hsn)
    | none => exact (hd.mono (Keep.refl _ _) hS).purgeL ks
  refine ⟨h.ds, h.nt, ?_, ?_, ?_, ?_, h.fr, h.s0, h.pin⟩
  · intro i d hi
    simp only [St.frz, lk_frzT] at hi
    cases hl : lk st.T i with
    | none => simp [hl] at hi
    | some o => simp only [hl, Option.map_some, Option.some.injEq] at hi; rw [← hi]; exact hm (h.T i o hl)
  · intro i ob' hi
    obtain ⟨_, o, ho, rfl⟩ := hold hi
    obtain ⟨wf, cur, ee, hb', hs, hc⟩ := h.H i o ho
    refine ⟨Rows.wf_frz st ks wf, cur, ee, hb', by rw [Rows.len_frz]; exact hs, fun i' j' d' hd' => ?_⟩
    obtain ⟨d0, h0, hd0⟩ := Rows.at_frz _ _ _ _ _ _ hd'
    obtain ⟨v', h1, h2, h3⟩ := hc _ _ _ h0
    refine ⟨v', h1, h2, ?_⟩
    rcases hd0 with ⟨rfl, _⟩ | rfl
    · exact h3.mono (Keep.refl _ _) hS
    · exact hm h3
  · intro i i' o1 o2 h1 h2 he
    obtain ⟨_, o, ho, _⟩ := hold h1
    obtain ⟨_, o', ho', _⟩ := hold h2
    exact h.inj _ _ _ _ ho ho' he
  · intro i ob' hi
    obtain ⟨_, o, ho, _⟩ := hold hi
    exact h.mine _ _ ho
end

section
variable {F : Fence} {P : Program} {nt : Nat} {x : Fx} {Q : Exit → St → Prop} {st : St}

theorem oks_frz (ks : List Nat) {ops : List DOper} {R : St → Prop} (h : OkOps F P nt x ops R (st.frz ks)) : OkOps F P nt x ops R st :=
  fun hn arr idx hi n κ a w hs K hK => h hn arr idx hi n κ a w (hs.frz ks) K hK
theorem ok_frz (ks : List Nat) {dc : DCode} (h : Ok F P nt x dc Q (st.frz ks)) : Ok F P nt x dc Q st :=
  fun hn c hd hc n κ a w hs => h hn c hd hc n κ a w (hs.frz ks)
theorem oks_sub {st' : St} (hs : st.Sub st') {ops : List DOper} {R : St → Prop} (h : OkOps F P nt x ops R st') : OkOps F P nt x ops R st :=
  fun hn arr idx hi n κ a w hsat K hK => h (hs.1.trans hn) arr idx hi n κ a w (hsat.sub hs) K hK
theorem oks_mono {ops : List DOper} {R R' : St → Prop} (h : OkOps F P nt x ops R st) (hr : ∀ s, R s → R' s) : OkOps F P nt x ops R' st :=
  fun hn arr idx hi n κ a w hs K hK => h hn arr idx hi n κ a w hs K fun s k a' w' q => hK s k a' w' (hr s q)

/-! ### what a call rule owes, however its callee is known -/

/-- one call: the machine runs the callee and hands on a value -/
theorem oks_call_gen (hF : Free F) {R : St → Prop} {ops : List DOper} {d : Nat} {f : FuncId} {l : List DOpd} {g : Option (Nat × Bool)} (hg : gOk st g)
    (h : d < st.nt → ∀ κ a w, Sat x st κ a w → ∀ vs : List Value, (∀ (i : Nat) (c : DV) (v : Value), (l.map st.ev)[i]? = some c → vs[i]? = some v → DRel w (x.S st κ) κ c v) → l.length = vs.length →
      Calls P f vs.toArray w fun e w' => ∃ v st' κ', e = .returned v ∧ Sat x st' κ' (a.put (some d) v) w' ∧ st'.nt = st.nt ∧ OkOps F P nt x ops R st') : OkOps F P nt x (⟨some d, .call f l, g⟩ :: ops) R st := by
  intro hn arr idx hi n κ a w hs K hK
  cases idx with
  | nil => simp at hi
  | cons i rest =>
    simp only [List.map_cons, List.cons.injEq, Option.map_eq_some_iff] at hi
    obtain ⟨⟨oo, hoo, hco⟩, hrest⟩ := hi
    obtain ⟨e1, hcc⟩ := compOper_op hco
    rcases hcc with ⟨hb1, hb2⟩ | ⟨e2, e3, hgg⟩
    · cases hb1
    · have hw : Region.wanted oo (yielded arr a.tmps) = true := by
        rcases hgg with ⟨g1, g2⟩ | ⟨j, b, k, g1, g2, g3, g4⟩
        · simp [Region.wanted, g1]
        · simp only at g4
          subst g4
          have hy := yielded_bool hs g2 (by rw [hn]; exact g3) hg
          simp [Region.wanted, g1, hy]
      show wpOpsIn F n P arr K (i :: rest) a w
      simp only [wpOpsIn, hoo]
      rw [if_pos hw]
      refine ⟨fun f _ => hF.fn f, ?_⟩
      have hnd := not_defer (P := P) (o := oo.op) (by rw [← e2]; simp)
      rw [semAt_eq hnd]
      obtain ⟨dst, op, ty, pos, after, guard⟩ := oo
      simp only at e1 e2 e3 hw hnd
      have hop : ∃ args ats, op = .call { callee := .value (.func f), args := args, argTypes := ats } := by
        cases op with
        | call c =>
          obtain ⟨cal, args, ats⟩ := c
          simp only [compOp] at e2
          split at e2
          all_goals first
            | (rename_i f'
               split at e2
               · split at e2
                 · cases e2
                 · simp only [DOp.call.injEq] at e2
                   rw [← e2.1]
                   exact ⟨_, _, rfl⟩
               · cases e2)
            | (exfalso; repeat' split at e2
               all_goals cases e2)
            | cases e2
        | _ =>
          exfalso
          simp only [compOp] at e2
          repeat' split at e2
          all_goals cases e2
      obtain ⟨args, ats, rfl⟩ := hop
      obtain ⟨rfl, hrun⟩ := run_call (a := a) (w := w) (dst := dst) (ty := ty) (pos := pos) (after := after) (guard := guard) e2.symm
      rw [hrun]
      have ea : args.map a.eval = (args.toList.map a.eval).toArray := by apply Array.ext'; simp
      rw [ea]
      refine ⟨fun h => (by rw [hF.depth] at h; cases h), ?_⟩
      refine CallsIn.mono (calls_in hF (h (by rw [hn]; exact e3 d e1.symm) κ a w hs _ (hs.evs args.toList) (by simp))) ?_
      rintro e w' ⟨v, st', κ', rfl, hs', hn', hok⟩
      rw [← e1]
      exact hok (hn'.trans hn) arr rest hrest n κ' _ w' hs' K hK

/-- a call, the objects ks turned pure ahead of it -/
theorem oks_callf (ks : List Nat) (hF : Free F) {R : St → Prop} {ops : List DOper} {d : Nat} {f : FuncId} {l : List DOpd} {g : Option (Nat × Bool)} {ps : List PV} {Rc : PV → Prop}
    (hg : gOk (st.frz ks) g) (hp : pures (l.map (st.frz ks).ev) = some ps) (hc : PCall P f (ps.map PV.norm) Rc) (h : ∀ r, Rc r → OkOps F P nt x ops R ((st.frz ks).set d (.p r))) : OkOps F P nt x (⟨some d, .call f l, g⟩ :: ops) R st := by
  refine oks_frz ks (oks_call_gen hF hg fun hd κ a w hs vs hrel hl => ?_)
  obtain ⟨h1, h2⟩ := pures_rel hp hrel
  refine (hc w (x.S (st.frz ks) κ) vs hs.Slt (by simp at h1 hl ⊢; omega) (fun i c v hc hv => ?_)).mono ?_
  · simp only [List.getElem?_map, Option.map_eq_some_iff] at hc
    obtain ⟨q, hq, rfl⟩ := hc
    exact (h2 i q v hq hv).norm
  · rintro e w' ⟨v, r, rfl, hr, hfr, hv⟩
    exact ⟨v, _, κ, rfl, (hs.world hfr).set d hd (.p r) v (.p _ _ hv), rfl, h r hr⟩

theorem PRel.scalar {w : World} {S S' : Nat → Prop} {p : PV} {v : Value} (hp : p.scalar = true) (h : PRel w S p v) : PRel w S' p v := by
  cases h <;> first
    | (simp [PV.scalar] at hp; done)
    | constructor

theorem snapL_self {κ : Nat → Nat} {a : Act} {w : World} (hs : Sat x st κ a w) {cs : List DV} {vs : List Value} {ps : List PV} (hl : cs.length = vs.length)
    (hr : ∀ (i : Nat) (c : DV) (v : Value), cs[i]? = some c → vs[i]? = some v → DRel w (x.S st κ) κ c v) (hp : snapL st cs = some ps) : ps.length = vs.length ∧ ∀ (i : Nat) (c : PV) (v : Value), ps[i]? = some c → vs[i]? = some v → PRel w (fun _ => False) c v :=
  snapL_rel hs (st0 := st) (fun _ _ _ h => h) (fun b _ h => h.elim) (fun k sz rows h hh => hh) hl hr hp

/-- a call that only looks, and tells what is no reference: objects stay -/
theorem oks_calls (hF : Free F) {R : St → Prop} {ops : List DOper} {d : Nat} {f : FuncId} {l : List DOpd} {g : Option (Nat × Bool)} {ps : List PV} {Rc : PV → Prop}
    (hg : gOk st g) (hp : snapL st (l.map st.ev) = some ps) (hc : PCall P f ps Rc) (hsc : ∀ r, Rc r → r.scalar = true) (h : ∀ r, Rc r → OkOps F P nt x ops R (st.set d (.p r))) : OkOps F P nt x (⟨some d, .call f l, g⟩ :: ops) R st := by
  refine oks_call_gen hF hg fun hd κ a w hs vs hrel hl => ?_
  obtain ⟨h1, h2⟩ := snapL_self hs (by simpa using hl) hrel hp
  refine (hc w (fun _ => False) vs (fun _ h => h.elim) h1 h2).mono ?_
  rintro e w' ⟨v, r, rfl, hr, hfr, hv⟩
  exact ⟨v, _, κ, rfl, (hs.world hfr).set d hd (.p r) v (.p _ _ (hv.scalar (hsc r hr))), rfl, h r hr⟩
end
end Go.Dl
