/- Objects that turn pure for good; calls with them; calls that change an object. Functions that change an object, or hand on one of their own. -/
import Derived.Test.YtjmhdfcmghmgjaaDoorA5
set_option linter.unusedVariables false
set_option linter.unusedSimpArgs false
namespace Go.Dl

def DV.purgeL : List Nat → DV → DV
  | [], d => d
  | k :: ks, d => DV.purgeL ks (d.purge k)
/-- a value, the objects ks turned pure -/
def frzD (st : St) (ks : List Nat) (d : DV) : DV := match snap0 (st.only ks) d with
  | some p => .p p
  | none => d.purgeL ks
def frzT (st : St) (ks : List Nat) : List (Nat × DV) → List (Nat × DV)
  | [] => []
  | (i, d) :: r => (i, frzD st ks d) :: frzT st ks r
def frzRows (st : St) (ks : List Nat) : Rows → Rows
  | .p r => .p r
  | .m r => .m (r.map (·.map (frzD st ks)))
def frzH (st : St) (ks : List Nat) : List (Nat × Ob) → List (Nat × Ob)
  | [] => []
  | (k, ob) :: r => if ks.contains k then frzH st ks r else (k, { ob with rows := frzRows st ks ob.rows }) :: frzH st ks r
def St.frz (st : St) (ks : List Nat) : St := ⟨st.nt, frzT st ks st.T, frzH st ks st.H⟩

section
variable {x : Fx} {st : St}

theorem lk_frzT (ks : List Nat) (s0 : St) : ∀ (T : List (Nat × DV)) (i : Nat), lk (frzT s0 ks T) i = (lk T i).map (frzD s0 ks)
  | [], i => rfl
  | (j, d) :: r, i => by
    simp only [frzT, lk_cons, lk_frzT ks s0 r i]
    split <;> rfl
theorem lk_frzH (ks : List Nat) (s0 : St) : ∀ (H : List (Nat × Ob)) (i : Nat), lk (frzH s0 ks H) i = if ks.contains i then none else (lk H i).map fun ob => { ob with rows := frzRows s0 ks ob.rows }
  | [], i => by simp [frzH, lk]
  | (j, ob) :: r, i => by
    simp only [frzH]
    by_cases hj : ks.contains j
    · rw [if_pos hj, lk_frzH ks s0 r i]
      simp only [lk_cons]
      by_cases e : j = i
      · subst e; rw [if_pos hj, if_pos hj]
      · rw [if_neg e]
    · rw [if_neg hj]
      simp only [lk_cons, lk_frzH ks s0 r i]
      by_cases e : j = i
      · subst e; rw [if_pos rfl, if_pos rfl, if_neg hj]; rfl
      · rw [if_neg e, if_neg e]

theorem DRel.purgeL {w : World} {S : Nat → Prop} {κ : Nat → Nat} : ∀ (ks : List Nat) {d : DV} {v : Value}, DRel w S κ d v → DRel w S κ (d.purgeL ks) v
  | [], d, v, h => h
  | k :: ks, d, v, h => DRel.purgeL ks (h.purge k (fun _ _ => rfl))

theorem Rows.at_frz (s0 : St) (ks : List Nat) (r : Rows) (i j : Nat) (d : DV) (h : (frzRows s0 ks r).at i j = some d) : ∃ d', r.at i j = some d' ∧ (d = d' ∧ (∃ p, d' = .p p) ∨ d = frzD s0 ks d') := by
  cases r with
  | p r =>
    simp only [frzRows] at h
    refine ⟨d, h, .inl ⟨rfl, ?_⟩⟩
    simp only [Rows.at, Option.map_eq_some_iff] at h
    obtain ⟨c, _, rfl⟩ := h
    exact ⟨c, rfl⟩
  | m r =>
    simp only [frzRows, Rows.at, rowAt, List.getElem?_map] at h ⊢
    cases hr : r[i]? with
    | none => simp [hr] at h
    | some row =>
      simp only [hr, Option.map_some, Option.bind_some, List.getElem?_map] at h ⊢
      cases hc : row[j]? with
      | none => simp [hc] at h
      | some c => simp only [hc, Option.map_some, Option.some.injEq] at h; exact ⟨c, rfl, .inr h.symm⟩
theorem Rows.len_frz (s0 : St) (ks : List Nat) (r : Rows) : (frzRows s0 ks r).len = r.len := by cases r <;> simp [frzRows, Rows.len]
theorem Rows.wf_frz {r : Rows} {sz : Nat} (s0 : St) (ks : List Nat) (h : r.wf sz) : (frzRows s0 ks r).wf sz := by
  cases r with
  | p r => exact h
  | m r =>
    intro row hr
    simp only [List.mem_map] at hr
    obtain ⟨q, hq, rfl⟩ := hr
    rw [List.length_map]; exact h q hq

theorem Sat.frz {κ : Nat → Nat} {a : Act} {w : World} (h : Sat x st κ a w) (ks : List Nat) : Sat x (st.frz ks) κ a w := by
  have hold : ∀ {i : Nat} {ob' : Ob}, lk (st.frz ks).H i = some ob' → i ∉ ks ∧ ∃ o, lk st.H i = some o ∧ ob' = { o with rows := frzRows st ks o.rows } := by
    intro i ob' hi
    simp only [St.frz, lk_frzH] at hi
    split at hi
    · cases hi
    · rename_i hk
      cases hl : lk st.H i with
      | none => simp [hl] at hi
      | some o => simp only [hl, Option.map_some, Option.some.injEq] at hi; exact ⟨by simpa using hk, o, rfl, hi.symm⟩
  have hS : ∀ c, c < w.heap.size → x.S (st.frz ks) κ c → x.S st κ c := by
    rintro c _ (hs | ⟨i, ob', hi, hro', he⟩)
    · exact .inl hs
    · obtain ⟨_, o, ho, rfl⟩ := hold hi
      exact .inr ⟨i, o, ho, hro', he⟩
  have hK : ∀ k sz rows, (st.only ks).pob k sz = some rows → ¬ x.S (st.frz ks) κ (κ k) := by
    intro k sz rows hp hs
    obtain ⟨hp', hk⟩ := only_pob hp
    obtain ⟨ro, hl⟩ := pob_at hp'
    rcases hs with hs | ⟨i, ob', hi, hro', he⟩
    · exact (h.mine k _ hl).2 hs
    · obtain ⟨hi', o, ho, _⟩ := hold hi
      exact hi' (by rw [h.inj _ _ _ _ ho hl he]; exact hk)
  have hm : ∀ {d : DV} {v : Value}, DRel w (x.S st κ) κ d v → DRel w (x.S (st.frz ks) κ) κ (frzD st ks d) v := by
    intro d v hd
    unfold frzD
    cases hsn : snap0 (st.only ks) d with
    | some p => exact .p _ _ (snap0_rel h (st0 := st.only ks) (fun k sz rows h => (only_pob h).1) hS hK hd hsn)
    | none => exact (hd.mono (Keep.refl _ _) hS).purgeL ks
  refine ⟨h.ds, h.nt, ?_, ?_, ?_, ?_, h.fr, h.s0, h.pin⟩
  · intro i d hi
    simp only [St.frz, lk_frzT] at hi
    cases hl : lk st.T i with
    | none => simp [hl] at hi
    | some o => simp only [hl, Option.map_some, Option.some.injEq] at hi; rw [← hi]; exact hm (h.T i o hl)
  · intro i ob' hi
    obtain ⟨_, o, ho, rfl⟩ := hold hi
    obtain ⟨wf, cur, ee, hb', hs, hc⟩ := h.H i o ho
    refine ⟨Rows.wf_frz st ks wf, cur, ee, hb', by rw [Rows.len_frz]; exact hs, fun i' j' d' hd' => ?_⟩
    obtain ⟨d0, h0, hd0⟩ := Rows.at_frz _ _ _ _ _ _ hd'
    obtain ⟨v', h1, h2, h3⟩ := hc _ _ _ h0
    refine ⟨v', h1, h2, ?_⟩
    rcases hd0 with ⟨rfl, _⟩ | rfl
    · exact h3.mono (Keep.refl _ _) hS
    · exact hm h3
  · intro i i' o1 o2 h1 h2 he
    obtain ⟨_, o, ho, _⟩ := hold h1
    obtain ⟨_, o', ho', _⟩ := hold h2
    exact h.inj _ _ _ _ ho ho' he
  · intro i ob' hi
    obtain ⟨_, o, ho, _⟩ := hold hi
    exact h.mine _ _ ho
end

section
variable {F : Fence} {P : Program} {nt : Nat} {x : Fx} {Q : Exit → St → Prop} {st : St}

theorem oks_frz (ks : List Nat) {ops : List DOper} {R : St → Prop} (h : OkOps F P nt x ops R (st.frz ks)) : OkOps F P nt x ops R st :=
  fun hn arr idx hi n κ a w hs K hK => h hn arr idx hi n κ a w (hs.frz ks) K hK
theorem ok_frz (ks : List Nat) {dc : DCode} (h : Ok F P nt x dc Q (st.frz ks)) : Ok F P nt x dc Q st :=
  fun hn c hd hc n κ a w hs => h hn c hd hc n κ a w (hs.frz ks)
theorem oks_sub {st' : St} (hs : st.Sub st') {ops : List DOper} {R : St → Prop} (h : OkOps F P nt x ops R st') : OkOps F P nt x ops R st :=
  fun hn arr idx hi n κ a w hsat K hK => h (hs.1.trans hn) arr idx hi n κ a w (hsat.sub hs) K hK
theorem oks_mono {ops : List DOper} {R R' : St → Prop} (h : OkOps F P nt x ops R st) (hr : ∀ s, R s → R' s) : OkOps F P nt x ops R' st :=
  fun hn arr idx hi n κ a w hs K hK => h hn arr idx hi n κ a w hs K fun s k a' w' q => hK s k a' w' (hr s q)

/-! ### what a call rule owes, however its callee is known -/

/-- one call: the machine runs the callee and hands on a value -/
theorem oks_call_gen (hF : Free F) {R : St → Prop} {ops : List DOper} {d : Nat} {f : FuncId} {l : List DOpd} {g : Option (Nat × Bool)} (hg : gOk st g)
    (h : d < st.nt → ∀ κ a w, Sat x st κ a w → ∀ vs : List Value, (∀ (i : Nat) (c : DV) (v : Value), (l.map st.ev)[i]? = some c → vs[i]? = some v → DRel w (x.S st κ) κ c v) → l.length = vs.length →
      Calls P f vs.toArray w fun e w' => ∃ v st' κ', e = .returned v ∧ Sat x st' κ' (a.put (some d) v) w' ∧ st'.nt = st.nt ∧ OkOps F P nt x ops R st') : OkOps F P nt x (⟨some d, .call f l, g⟩ :: ops) R st := by
  intro hn arr idx hi n κ a w hs K hK
  cases idx with
  | nil => simp at hi
  | cons i rest =>
    simp only [List.map_cons, List.cons.injEq, Option.map_eq_some_iff] at hi
    obtain ⟨⟨oo, hoo, hco⟩, hrest⟩ := hi
    obtain ⟨e1, hcc⟩ := compOper_op hco
    rcases hcc with ⟨hb1, hb2⟩ | ⟨e2, e3, hgg⟩
    · cases hb1
    · have hw : Region.wanted oo (yielded arr a.tmps) = true := by
        rcases hgg with ⟨g1, g2⟩ | ⟨j, b, k, g1, g2, g3, g4⟩
        · simp [Region.wanted, g1]
        · simp only at g4
          subst g4
          have hy := yielded_bool hs g2 (by rw [hn]; exact g3) hg
          simp [Region.wanted, g1, hy]
      show wpOpsIn F n P arr K (i :: rest) a w
      simp only [wpOpsIn, hoo]
      rw [if_pos hw]
      refine ⟨fun f _ => hF.fn f, ?_⟩
      have hnd := not_defer (P := P) (o := oo.op) (by rw [← e2]; simp)
      rw [semAt_eq hnd]
      obtain ⟨dst, op, ty, pos, after, guard⟩ := oo
      simp only at e1 e2 e3 hw hnd
      have hop : ∃ args ats, op = .call { callee := .value (.func f), args := args, argTypes := ats } := by
        cases op with
        | call c =>
          obtain ⟨cal, args, ats⟩ := c
          simp only [compOp] at e2
          split at e2
          all_goals first
            | (rename_i f'
               split at e2
               · split at e2
                 · cases e2
                 · simp only [DOp.call.injEq] at e2
                   rw [← e2.1]
                   exact ⟨_, _, rfl⟩
               · cases e2)
            | (exfalso; repeat' split at e2
               all_goals cases e2)
            | cases e2
        | _ =>
          exfalso
          simp only [compOp] at e2
          repeat' split at e2
          all_goals cases e2
      obtain ⟨args, ats, rfl⟩ := hop
      obtain ⟨rfl, hrun⟩ := run_call (a := a) (w := w) (dst := dst) (ty := ty) (pos := pos) (after := after) (guard := guard) e2.symm
      rw [hrun]
      have ea : args.map a.eval = (args.toList.map a.eval).toArray := by apply Array.ext'; simp
      rw [ea]
      refine ⟨fun h => (by rw [hF.depth] at h; cases h), ?_⟩
      refine CallsIn.mono (calls_in hF (h (by rw [hn]; exact e3 d e1.symm) κ a w hs _ (hs.evs args.toList) (by simp))) ?_
      rintro e w' ⟨v, st', κ', rfl, hs', hn', hok⟩
      rw [← e1]
      exact hok (hn'.trans hn) arr rest hrest n κ' _ w' hs' K hK

/-- a call, the objects ks turned pure ahead of it -/
theorem oks_callf (ks : List Nat) (hF : Free F) {R : St → Prop} {ops : List DOper} {d : Nat} {f : FuncId} {l : List DOpd} {g : Option (Nat × Bool)} {ps : List PV} {Rc : PV → Prop}
    (hg : gOk (st.frz ks) g) (hp : pures (l.map (st.frz ks).ev) = some ps) (hc : PCall P f (ps.map PV.norm) Rc) (h : ∀ r, Rc r → OkOps F P nt x ops R ((st.frz ks).set d (.p r))) : OkOps F P nt x (⟨some d, .call f l, g⟩ :: ops) R st := by
  refine oks_frz ks (oks_call_gen hF hg fun hd κ a w hs vs hrel hl => ?_)
  obtain ⟨h1, h2⟩ := pures_rel hp hrel
  refine (hc w (x.S (st.frz ks) κ) vs hs.Slt (by simp at h1 hl ⊢; omega) (fun i c v hc hv => ?_)).mono ?_
  · simp only [List.getElem?_map, Option.map_eq_some_iff] at hc
    obtain ⟨q, hq, rfl⟩ := hc
    exact (h2 i q v hq hv).norm
  · rintro e w' ⟨v, r, rfl, hr, hfr, hv⟩
    exact ⟨v, _, κ, rfl, (hs.world hfr).set d hd (.p r) v (.p _ _ hv), rfl, h r hr⟩

theorem PRel.scalar {w : World} {S S' : Nat → Prop} {p : PV} {v : Value} (hp : p.scalar = true) (h : PRel w S p v) : PRel w S' p v := by
  cases h <;> first
    | (simp [PV.scalar] at hp; done)
    | constructor

theorem snapL_self {κ : Nat → Nat} {a : Act} {w : World} (hs : Sat x st κ a w) {cs : List DV} {vs : List Value} {ps : List PV} (hl : cs.length = vs.length)
    (hr : ∀ (i : Nat) (c : DV) (v : Value), cs[i]? = some c → vs[i]? = some v → DRel w (x.S st κ) κ c v) (hp : snapL st cs = some ps) : ps.length = vs.length ∧ ∀ (i : Nat) (c : PV) (v : Value), ps[i]? = some c → vs[i]? = some v → PRel w (fun _ => False) c v :=
  snapL_rel hs (st0 := st) (fun _ _ _ h => h) (fun b _ h => h.elim) (fun k sz rows h hh => hh) hl hr hp

/-- a call that only looks, and tells what is no reference: objects stay -/
theorem oks_calls (hF : Free F) {R : St → Prop} {ops : List DOper} {d : Nat} {f : FuncId} {l : List DOpd} {g : Option (Nat × Bool)} {ps : List PV} {Rc : PV → Prop}
    (hg : gOk st g) (hp : snapL st (l.map st.ev) = some ps) (hc : PCall P f ps Rc) (hsc : ∀ r, Rc r → r.scalar = true) (h : ∀ r, Rc r → OkOps F P nt x ops R (st.set d (.p r))) : OkOps F P nt x (⟨some d, .call f l, g⟩ :: ops) R st := by
  refine oks_call_gen hF hg fun hd κ a w hs vs hrel hl => ?_
  obtain ⟨h1, h2⟩ := snapL_self hs (by simpa using hl) hrel hp
  refine (hc w (fun _ => False) vs (fun _ h => h.elim) h1 h2).mono ?_
  rintro e w' ⟨v, r, rfl, hr, hfr, hv⟩
  exact ⟨v, _, κ, rfl, (hs.world hfr).set d hd (.p r) v (.p _ _ (hv.scalar (hsc r hr))), rfl, h r hr⟩
end
end Go.Dl
set_option linter.unusedVariables false
set_option linter.unusedSimpArgs false
namespace Go.Dl

mutual
def DV.rk (f : Nat → Option Nat) : DV → DV
  | .undef => .undef
  | .p v => .p v
  | .own k sz s l r => match f k with
    | some k' => .own k' sz s l r
    | none => .undef
  | .ptr k sz i o => match f k with
    | some k' => .ptr k' sz i o
    | none => .undef
  | .agg cs => .agg (DV.rkL f cs)
  | .tup cs => .tup (DV.rkL f cs)
  | .fn g us vs => .fn g (DV.rkL f us) (DV.rkL f vs)
def DV.rkL (f : Nat → Option Nat) : List DV → List DV
  | [] => []
  | d :: r => DV.rk f d :: DV.rkL f r
end
theorem rkL_eq (f : Nat → Option Nat) : ∀ (l : List DV), DV.rkL f l = l.map (DV.rk f)
  | [] => rfl
  | d :: r => by simp [DV.rkL, rkL_eq f r]

theorem DRel.rk {w : World} {S : Nat → Prop} {κ κ' : Nat → Nat} {d : DV} {v : Value} (f : Nat → Option Nat) (hf : ∀ k k', f k = some k' → κ' k' = κ k) (h : DRel w S κ d v) : DRel w S κ' (d.rk f) v := by
  have hl : ∀ (cs : List DV) (vs : List Value), (∀ (i : Nat) (c : DV) (v : Value), cs[i]? = some c → vs[i]? = some v → DRel w S κ' (c.rk f) v) →
      ∀ (i : Nat) (c : DV) (v : Value), (DV.rkL f cs)[i]? = some c → vs[i]? = some v → DRel w S κ' c v := by
    intro cs vs h i c v hc hv
    rw [rkL_eq, List.getElem?_map, Option.map_eq_some_iff] at hc
    obtain ⟨q, hq, rfl⟩ := hc
    exact h i q v hq hv
  have hlen : ∀ cs : List DV, (DV.rkL f cs).length = cs.length := fun cs => by rw [rkL_eq, List.length_map]
  induction h with
  | undef v => exact .undef v
  | p v x h => exact .p v x h
  | own k sz start len room cap o hlen' hroom hmax ho cur e fr hb hfit =>
    simp only [DV.rk]
    cases hk : f k with
    | none => exact .undef _
    | some k' =>
      rw [← hf k k' hk] at hb ⊢
      exact .own k' sz start len room cap o hlen' hroom hmax ho cur e fr hb hfit
  | ownnil k sz =>
    simp only [DV.rk]
    cases hk : f k with
    | none => exact .undef _
    | some k' => exact .ownnil k' sz
  | ptr k sz i off =>
    simp only [DV.rk]
    cases hk : f k with
    | none => exact .undef _
    | some k' => rw [← hf k k' hk]; exact .ptr k' sz i off
  | agg cs vs hl' hrel ih => exact .agg _ vs (by rw [hlen, hl']) (hl cs vs ih)
  | tup cs vs hl' hrel ih => exact .tup _ vs (by rw [hlen, hl']) (hl cs vs ih)
  | fn g fs cs us vs h1 h2 _ _ ih1 ih2 => exact .fn g _ _ us vs (by rw [hlen, h1]) (by rw [hlen, h2]) (hl fs us ih1) (hl cs vs ih2)

def toK (j : Nat) (k : Nat) : Option Nat := if k = j then some 1000 else none
def ofK (j : Nat) (k : Nat) : Option Nat := if k = 1000 then some j else none

def Act.bare : Act := { tmps := #[], defers := [] }

/-- Called with args, the objects H0 under keys from 1000 on, the function f hands on r and leaves the objects H so that R r H. -/
def MCall (P : Program) (f : FuncId) (args : List DV) (H0 : List (Nat × Ob)) (R : DV → List (Nat × Ob) → Prop) : Prop :=
  ∀ (x : Fx) (κ : Nat → Nat) (w : World) (vs : List Value), x.ds = [] → (∀ k b, x.pin k = some b → 1000 ≤ k) → Sat x ⟨0, [], H0⟩ κ Act.bare w → args.length = vs.length →
    (∀ (i : Nat) (c : DV) (v : Value), args[i]? = some c → vs[i]? = some v → DRel w (x.S ⟨0, [], H0⟩ κ) κ c v) →
    Calls P f vs.toArray w fun e w' => ∃ v r H κ', e = .returned v ∧ R r H ∧ Sat x ⟨0, [], H⟩ κ' Act.bare w' ∧ DRel w' (x.S ⟨0, [], H⟩ κ') κ' r v

theorem MCall.mono {P : Program} {f : FuncId} {args : List DV} {H0 : List (Nat × Ob)} {R R' : DV → List (Nat × Ob) → Prop} (h : MCall P f args H0 R) (hr : ∀ r H, R r H → R' r H) : MCall P f args H0 R' :=
  fun x κ w vs h1 h2 h3 h4 h5 => (h x κ w vs h1 h2 h3 h4 h5).mono fun e w' ⟨v, r, H, κ', a, b, c⟩ => ⟨v, r, H, κ', a, hr _ _ b, c⟩

def argsM : Nat → List DV → List (Nat × DV)
  | _, [] => []
  | i, a :: r => (i, a) :: argsM (i + 1) r
theorem argsM_lk : ∀ (i : Nat) (l : List DV) (j : Nat) (d : DV), lk (argsM i l) j = some d → l[j - i]? = some d ∧ i ≤ j
  | i, [], j, d, h => by simp [argsM, lk] at h
  | i, p :: r, j, d, h => by
    simp only [argsM, lk_cons] at h
    split at h
    · rename_i e; subst e; cases h; exact ⟨by simp, Nat.le_refl _⟩
    · obtain ⟨h1, h3⟩ := argsM_lk (i + 1) r j d h
      refine ⟨?_, by omega⟩
      rw [show j - i = (j - (i + 1)) + 1 by omega, List.getElem?_cons_succ]
      exact h1

def retM (res : List DRes) (R : DV → List (Nat × Ob) → Prop) (e : Exit) (st : St) : Prop :=
  (e = .ret ∨ e = .normal) ∧ ∃ d, resD st res = some d ∧ R d st.H
@[simp] theorem retM_ret (res : List DRes) (R : DV → List (Nat × Ob) → Prop) (st : St) : retM res R .ret st = ∃ d, resD st res = some d ∧ R d st.H := by simp [retM]
@[simp] theorem retM_normal (res : List DRes) (R : DV → List (Nat × Ob) → Prop) (st : St) : retM res R .normal st = ∃ d, resD st res = some d ∧ R d st.H := by simp [retM]

section
variable {P : Program}

theorem mcall_of [DGood P] {f : FuncId} {args : List DV} {H0 : List (Nat × Ob)} {R : DV → List (Nat × Ob) → Prop} {D : DFn} (hf : compF P f = some D) (hl : args.length ≤ D.nt) (hnt : D.nt ≤ 1000)
    (h : ∀ x : Fx, Ok Fence.wide P D.nt x D.code (retM D.res R) ⟨D.nt, argsM 0 args, H0⟩) : MCall P f args H0 R := by
  intro x κ w vs hds hpin hs hlen hrel
  unfold compF at hf
  split at hf
  · rename_i fn hfn
    split at hf
    · rename_i c hc
      cases hf
      refine (callsIn_wide (n := 0)).1 (callsIn_of_wp hfn hc trivial ?_)
      have hs0 : Sat x ⟨fn.ntmps, argsM 0 args, H0⟩ κ { tmps := vs.toArray ++ Array.replicate (fn.ntmps - vs.toArray.size) undef, defers := [] } w := by
        refine ⟨hds.symm, ?_, ?_, hs.H, hs.inj, hs.mine, hs.fr, hs.s0, fun k b hk => ⟨(hs.pin k b hk).1, Nat.le_trans hnt (hpin k b hk)⟩⟩
        · simp at hl ⊢; omega
        · intro i d hd
          obtain ⟨h1, _⟩ := argsM_lk 0 args i d hd
          rw [Nat.sub_zero] at h1
          have hlt : i < vs.length := by rw [← hlen]; exact (List.getElem?_eq_some_iff.1 h1).1
          have hg : (vs.toArray ++ Array.replicate (fn.ntmps - vs.toArray.size) undef).getD i undef = vs[i] := by
            simp [Array.getD, Array.getElem_append, hlt]
            omega
          rw [hg]
          exact hrel i d _ h1 (List.getElem?_eq_getElem hlt)
      refine wpIn_mono (h x rfl c (DGood.body hfn hc) rfl 0 _ _ w hs0) ?_
      rintro e a' w' ⟨st', κ', ⟨he, d, h1, h3⟩, hs', hn'⟩
      obtain ⟨v, g1, g2⟩ := results_run hs' fn h1
      have fin : a'.defers = [] ∧ ∃ v, (results fn a'.tmps).run P w' = .ok v w' ∧ ∃ v_1 r H κ', Ending.returned v = Ending.returned v_1 ∧ R r H ∧ Sat x ⟨0, [], H⟩ κ' Act.bare w' ∧ DRel w' (x.S ⟨0, [], H⟩ κ') κ' r v_1 :=
        ⟨hs'.ds.trans hds, v, g1, v, d, st'.H, κ', rfl, h3,
          ⟨hds.symm, rfl, fun i d hd => by simp [lk] at hd, hs'.H, hs'.inj, hs'.mine, hs'.fr, hs'.s0, fun k b hk => ⟨(hs'.pin k b hk).1, Nat.zero_le _⟩⟩, g2⟩
      rcases he with rfl | rfl
      · exact fin
      · exact fin
    · cases hf
  · cases hf

theorem mcall_vc [DGood P] {f : FuncId} {args : List DV} {H0 : List (Nat × Ob)} {R : DV → List (Nat × Ob) → Prop} (D : { d : DFn // compF P f = some d }) (hl : args.length ≤ D.1.nt) (hnt : D.1.nt ≤ 1000)
    (h : ∀ (x : Fx) (K : DV → List (Nat × Ob) → Prop), (∀ r H, R r H → K r H) → VC Fence.wide P D.1.nt x D.1.code (retM D.1.res K) ⟨D.1.nt, argsM 0 args, H0⟩) : MCall P f args H0 R :=
  mcall_of D.2 hl hnt fun x => vc_ok .wide _ (h x R fun _ _ h => h)

variable {F : Fence} {nt : Nat} {x : Fx} {st : St}

theorem ObRel.pure_to {w : World} {S S' : Nat → Prop} {κ κ' : Nat → Nat} {k k' : Nat} {ro ro' : Bool} {sz : Nat} {rows : List (List PV)} (h : ObRel w S κ k ⟨ro, sz, .p rows⟩) (hk : κ' k' = κ k) (hS : ∀ b, b < w.heap.size → S' b → S b) : ObRel w S' κ' k' ⟨ro', sz, .p rows⟩ := by
  obtain ⟨wf, cur, e, hb, hlen, hc⟩ := h
  refine ⟨wf, cur, e, by rw [hk]; exact hb, hlen, fun i j d hd => ?_⟩
  obtain ⟨v, h1, h2, h3⟩ := hc i j d hd
  refine ⟨v, h1, h2, ?_⟩
  simp only [Rows.at, Option.map_eq_some_iff] at hd
  obtain ⟨c, _, rfl⟩ := hd
  cases h3 with | p _ _ h3 =>
  exact .p _ _ (h3.mono (Keep.refl _ _) hS)

/-- the callee's view of the caller's object j -/
def Fx.lend (x : Fx) (st : St) (κ : Nat → Nat) (j : Nat) (w : World) : Fx :=
  ⟨fun b => x.S st κ b ∧ b ≠ κ j, fun b => b = κ j, w, [], fun k => if k = 1000 then some (κ j) else none⟩
theorem lend_S {κ : Nat → Nat} {w : World} {j : Nat} {sz : Nat} {rows : List (List PV)} (hj : lk st.H j = some ⟨false, sz, .p rows⟩) (κ' : Nat → Nat) (hκ : κ' 1000 = κ j) (b : Nat) :
    (x.lend st κ j w).S ⟨0, [], [(1000, ⟨false, sz, .p rows⟩)]⟩ κ' b ↔ x.S st κ b := by
  constructor
  · rintro (⟨h, _⟩ | ⟨k, ob, hk, hro, he⟩)
    · exact h
    · simp only [lk] at hk
      split at hk
      · rename_i e; subst e; rw [← he, hκ]; exact Sat.ownedBlock hj rfl
      · cases hk
  · intro h
    by_cases e : b = κ j
    · subst e; exact .inr ⟨1000, ⟨false, sz, .p rows⟩, by simp [lk], rfl, hκ⟩
    · exact .inl ⟨h, e⟩
theorem Sat.lend {κ : Nat → Nat} {a : Act} {w : World} (hs : Sat x st κ a w) {j : Nat} {sz : Nat} {rows : List (List PV)} (hj : lk st.H j = some ⟨false, sz, .p rows⟩) :
    Sat (x.lend st κ j w) ⟨0, [], [(1000, ⟨false, sz, .p rows⟩)]⟩ (fun _ => κ j) Act.bare w := by
  have hb : κ j < w.heap.size := by
    obtain ⟨_, cur, e, hb, _⟩ := hs.H j _ hj
    exact getElem?_lt hb
  refine ⟨rfl, rfl, fun i d hd => by simp [lk] at hd, fun k ob hk => ?_, fun k k' ob ob' h1 h2 _ => ?_, fun k ob hk => ?_, Fr.refl _ _, fun b hb => hs.Slt b hb.1, fun k b hk => ?_⟩
  · simp only [lk] at hk
    split at hk
    · cases hk
      exact (hs.H j _ hj).pure_to rfl (fun b _ h => (lend_S hj (fun _ => κ j) rfl b).1 h)
    · cases hk
  · simp only [lk] at h1 h2
    split at h1
    · split at h2
      · omega
      · cases h2
    · cases h1
  · exact ⟨.inr rfl, fun h => h.2 rfl⟩
  · simp only [Fx.lend] at hk
    split at hk
    · cases hk; exact ⟨rfl, Nat.zero_le _⟩
    · cases hk

/-- a call that changes the object j in place -/
theorem oks_callb (hF : Free F) {R : St → Prop} {ops : List DOper} {d : Nat} {f : FuncId} {l : List DOpd} {g : Option (Nat × Bool)} (j : Nat) {sz : Nat} {rows : List (List PV)} {Rc : DV → List (Nat × Ob) → Prop}
    (hg : gOk st g) (hj : lk st.H j = some ⟨false, sz, .p rows⟩) (hc : MCall P f (l.map fun o => (st.ev o).rk (toK j)) [(1000, ⟨false, sz, .p rows⟩)] Rc)
    (h : ∀ r H, Rc r H → ∃ rows', lk H 1000 = some ⟨false, sz, .p rows'⟩ ∧ OkOps F P nt x ops R ((st.upd j ⟨false, sz, .p rows'⟩).set d (r.rk (ofK j)))) : OkOps F P nt x (⟨some d, .call f l, g⟩ :: ops) R st := by
  refine oks_call_gen hF hg fun hd κ a w hs vs hrel hl => ?_
  refine (hc (x.lend st κ j w) (fun _ => κ j) w vs rfl (fun k b hk => ?_) (hs.lend hj) (by simpa using hl) (fun i c v hc hv => ?_)).mono ?_
  · simp only [Fx.lend] at hk
    split at hk
    · rename_i e; omega
    · cases hk
  · simp only [List.getElem?_map, Option.map_eq_some_iff] at hc
    obtain ⟨o, ho, rfl⟩ := hc
    have := hrel i (st.ev o) v (by simp [ho]) hv
    refine (this.rk (toK j) (κ' := fun _ => κ j) (fun k k' hk => ?_)).mono (Keep.refl _ _) (fun b _ h => (lend_S hj (fun _ => κ j) rfl b).1 h)
    unfold toK at hk
    split at hk
    · rename_i e; rw [e]
    · cases hk
  · rintro e w' ⟨v, r, H, κ', rfl, hr, hs', hv⟩
    obtain ⟨rows', hrows, hok⟩ := h r H hr
    have hpin : κ' 1000 = κ j := (hs'.pin 1000 (κ j) (by simp [Fx.lend])).1
    have hSb : ∀ b, b < w'.heap.size → x.S st κ b → (x.lend st κ j w).S ⟨0, [], H⟩ κ' b := by
      intro b _ hb
      by_cases e : b = κ j
      · exact .inr ⟨1000, _, hrows, rfl, by rw [hpin, e]⟩
      · exact .inl ⟨hb, e⟩
    have h1 := hs.updOb j _ hj rfl ⟨false, sz, .p rows'⟩ hs'.fr rfl ((hs'.H 1000 _ hrows).pure_to hpin.symm hSb)
    have hSe : ∀ b, x.S (st.upd j ⟨false, sz, .p rows'⟩) κ b → x.S st κ b := by
      rintro b (hb | ⟨k, ob, hk, hro, he⟩)
      · exact .inl hb
      · simp only [St.upd, lk_cons] at hk
        split at hk
        · rename_i e; rw [← he, ← e]; exact Sat.ownedBlock hj rfl
        · exact .inr ⟨k, ob, hk, hro, he⟩
    have h2 := h1.set d hd (r.rk (ofK j)) v ((hv.rk (ofK j) (κ' := κ) (fun k k' hk => by
      unfold ofK at hk
      split at hk
      · rename_i e; cases hk; rw [e, hpin]
      · cases hk)).mono (Keep.refl _ _) (fun b hb hh => hSb b hb (hSe b hh)))
    exact ⟨v, _, κ, rfl, h2, rfl, hok⟩

/-- a call that takes the object j, and hands on one -/
theorem oks_callm (hF : Free F) {R : St → Prop} {ops : List DOper} {d : Nat} {f : FuncId} {l : List DOpd} {g : Option (Nat × Bool)} (j : Nat) {sz : Nat} {rows : List (List PV)} {Rc : DV → List (Nat × Ob) → Prop}
    (hg : gOk st g) (hj : lk st.H j = some ⟨false, sz, .p rows⟩) (hc : MCall P f (l.map fun o => (st.ev o).rk (toK j)) [(1000, ⟨false, sz, .p rows⟩)] Rc)
    (h : ∀ r H, Rc r H → ∃ k sz' s len room rows', r = .own k sz' s len room ∧ lk H k = some ⟨false, sz', .p rows'⟩ ∧ OkOps F P nt x ops R ((st.drop j).new d ⟨false, sz', .p rows'⟩ (.own d sz' s len room))) :
    OkOps F P nt x (⟨some d, .call f l, g⟩ :: ops) R st := by
  refine oks_call_gen hF hg fun hd κ a w hs vs hrel hl => ?_
  refine (hc (x.lend st κ j w) (fun _ => κ j) w vs rfl (fun k b hk => ?_) (hs.lend hj) (by simpa using hl) (fun i c v hc hv => ?_)).mono ?_
  · simp only [Fx.lend] at hk
    split at hk
    · rename_i e; omega
    · cases hk
  · simp only [List.getElem?_map, Option.map_eq_some_iff] at hc
    obtain ⟨o, ho, rfl⟩ := hc
    have := hrel i (st.ev o) v (by simp [ho]) hv
    refine (this.rk (toK j) (κ' := fun _ => κ j) (fun k k' hk => ?_)).mono (Keep.refl _ _) (fun b _ h => (lend_S hj (fun _ => κ j) rfl b).1 h)
    unfold toK at hk
    split at hk
    · rename_i e; rw [e]
    · cases hk
  · rintro e w' ⟨v, r, H, κ', rfl, hr, hs', hv⟩
    obtain ⟨k, sz', s, len, room, rows', rfl, hrows, hok⟩ := h r H hr
    have hm := hs'.mine k _ hrows
    have hSb : ∀ S : Nat → Prop, (∀ c, S c → (x.S st κ c ∧ c ≠ κ j) ∨ c = κ' k) → ∀ b, b < w'.heap.size → S b → (x.lend st κ j w).S ⟨0, [], H⟩ κ' b := by
      intro S hS b _ hb
      rcases hS b hb with h | h
      · exact .inl h
      · exact .inr ⟨k, _, hrows, rfl, h.symm⟩
    refine ⟨v, _, _, rfl, hs.moveTo j _ hj rfl (κ' k) (by
      rcases hm.1 with h | h
      · exact .inr h
      · exact .inl h) d hd ⟨false, sz', .p rows'⟩ (.own d sz' s len room) v hs'.fr (fun S hS => (hs'.H k _ hrows).pure_to (by rw [upd_same]) (hSb S hS)) (fun S hS => ?_), rfl, hok⟩
    have h1 := hv.mono (Keep.refl _ _) (hSb S hS)
    have h2 := h1.rk (fun i => if i = k then some d else none) (κ' := upd κ d (κ' k)) (fun i i' hi => by
      split at hi
      · rename_i e; cases hi; rw [e, upd_same]
      · cases hi)
    simpa [DV.rk] using h2

/-- a call that hands on an object of its own -/
theorem oks_calln (hF : Free F) {R : St → Prop} {ops : List DOper} {d : Nat} {f : FuncId} {l : List DOpd} {g : Option (Nat × Bool)} {ps : List PV} {Rc : DV → List (Nat × Ob) → Prop}
    (hg : gOk st g) (hp : pures (l.map st.ev) = some ps) (hc : MCall P f (ps.map .p) [] Rc)
    (h : ∀ r H, Rc r H → ∃ k sz' s len room rows', r = .own k sz' s len room ∧ lk H k = some ⟨false, sz', .p rows'⟩ ∧ OkOps F P nt x ops R (st.new d ⟨false, sz', .p rows'⟩ (.own d sz' s len room))) :
    OkOps F P nt x (⟨some d, .call f l, g⟩ :: ops) R st := by
  refine oks_call_gen hF hg fun hd κ a w hs vs hrel hl => ?_
  obtain ⟨p1, p2⟩ := pures_rel hp hrel
  let x' : Fx := ⟨x.S st κ, fun _ => False, w, [], fun _ => none⟩
  have hx' : ∀ κ' b, x'.S ⟨0, [], []⟩ κ' b → x.S st κ b := by
    rintro κ' b (h | ⟨k, ob, hk, _⟩)
    · exact h
    · simp [lk] at hk
  refine (hc x' κ w vs rfl (fun k b hk => by cases hk) ⟨rfl, rfl, fun i d hd => by simp [lk] at hd, fun k ob hk => by simp [lk] at hk, fun k k' ob ob' hk => by simp [lk] at hk, fun k ob hk => by simp [lk] at hk,
    Fr.refl _ _, hs.Slt, fun k b hk => by cases hk⟩ (by simp at p1 hl ⊢; omega) (fun i c v hc hv => ?_)).mono ?_
  · simp only [List.getElem?_map, Option.map_eq_some_iff] at hc
    obtain ⟨q, hq, rfl⟩ := hc
    exact .p _ _ ((p2 i q v hq hv).mono (Keep.refl _ _) (fun b _ h => hx' κ b h))
  · rintro e w' ⟨v, r, H, κ', rfl, hr, hs', hv⟩
    obtain ⟨k, sz', s, len, room, rows', rfl, hrows, hok⟩ := h r H hr
    have hm := hs'.mine k _ hrows
    have hnew : w.heap.size ≤ κ' k := by
      rcases hm.1 with h | h
      · exact h
      · exact h.elim
    have hSb : ∀ S : Nat → Prop, (∀ c, S c → x.S st κ c ∨ c = κ' k) → ∀ b, b < w'.heap.size → S b → x'.S ⟨0, [], H⟩ κ' b := by
      intro S hS b _ hb
      rcases hS b hb with h | h
      · exact .inl h
      · exact .inr ⟨k, _, hrows, rfl, h.symm⟩
    refine ⟨v, _, _, rfl, hs.newTo d hd ⟨false, sz', .p rows'⟩ (.own d sz' s len room) v (κ' k) hs'.fr hnew (fun S hS _ => (hs'.H k _ hrows).pure_to (by rw [upd_same]) (hSb S hS)) (fun S hS _ => ?_), rfl, hok⟩
    have h1 := hv.mono (Keep.refl _ _) (hSb S hS)
    have h2 := h1.rk (fun i => if i = k then some d else none) (κ' := upd κ d (κ' k)) (fun i i' hi => by
      split at hi
      · rename_i e; cases hi; rw [e, upd_same]
      · cases hi)
    simpa [DV.rk] using h2
end
attribute [simp] DV.rk DV.rkL toK ofK argsM frzD frzT frzRows frzH St.frz St.only filt DV.purgeL
end Go.Dl
