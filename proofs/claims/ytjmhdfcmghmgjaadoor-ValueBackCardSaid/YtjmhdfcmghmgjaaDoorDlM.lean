/- Functions that change an object, or hand on one of their own. -/
import Derived.Test.YtjmhdfcmghmgjaaDoorDlL
set_option linter.unusedVariables false
set_option linter.unusedSimpArgs false
namespace Go.Dl

mutual
def DV.rk (f : Nat → Option Nat) : DV → DV
  | .undef => .undef
  | .p v => .p v
  | .own k sz s l r => match f k with
    | some k' => .own k' sz s l r
    | none => .undef
  | .ptr k sz i o => match f k with
    | some k' => .ptr k' sz i o
    | none => .undef
  | .agg cs => .agg (DV.rkL f cs)
  | .tup cs => .tup (DV.rkL f cs)
  | .fn g us vs => .fn g (DV.rkL f us) (DV.rkL f vs)
def DV.rkL (f : Nat → Option Nat) : List DV → List DV
  | [] => []
  | d :: r => DV.rk f d :: DV.rkL f r
end
theorem rkL_eq (f : Nat → Option Nat) : ∀ (l : List DV), DV.rkL f l = l.map (DV.rk f)
  | [] => rfl
  | d :: r => by simp [DV.rkL, rkL_eq f r]

theorem DRel.rk {w : World} {S : Nat → Prop} {κ κ' : Nat → Nat} {d : DV} {v : Value} (f : Nat → Option Nat) (hf : ∀ k k', f k = some k' → κ' k' = κ k) (h : DRel w S κ d v) : DRel w S κ' (d.rk f) v := by
  have hl : ∀ (cs : List DV) (vs : List Value), (∀ (i : Nat) (c : DV) (v : Value), cs[i]? = some c → vs[i]? = some v → DRel w S κ' (c.rk f) v) →
      ∀ (i : Nat) (c : DV) (v : Value), (DV.rkL f cs)[i]? = some c → vs[i]? = some v → DRel w S κ' c v := by
    intro cs vs h i c v hc hv
    rw [rkL_eq, List.getElem?_map, Option.map_eq_some_iff] at hc
    obtain ⟨q, hq, rfl⟩ := hc
    exact h i q v hq hv
  have hlen : ∀ cs : List DV, (DV.rkL f cs).length = cs.length := fun cs => by rw [rkL_eq, List.length_map]
  induction h with
  | undef v => exact .undef v
  | p v x h => exact .p v x h
  | own k sz start len room cap o hlen' hroom hmax ho cur e fr hb hfit =>
    simp only [DV.rk]
    cases hk : f k with
    | none => exact .undef _
    | some k' =>
      rw [← hf k k' hk] at hb ⊢
      exact .own k' sz start len room cap o hlen' hroom hmax ho cur e fr hb hfit
  | ownnil k sz =>
    simp only [DV.rk]
    cases hk : f k with
    | none => exact .undef _
    | some k' => exact .ownnil k' sz
  | ptr k sz i off =>
    simp only [DV.rk]
    cases hk : f k with
    | none => exact .undef _
    | some k' => rw [← hf k k' hk]; exact .ptr k' sz i off
  | agg cs vs hl' hrel ih => exact .agg _ vs (by rw [hlen, hl']) (hl cs vs ih)
  | tup cs vs hl' hrel ih => exact .tup _ vs (by rw [hlen, hl']) (hl cs vs ih)
  | fn g fs cs us vs h1 h2 _ _ ih1 ih2 => exact .fn g _ _ us vs (by rw [hlen, h1]) (by rw [hlen, h2]) (hl fs us ih1) (hl cs vs ih2)

def toK (j : Nat) (k : Nat) : Option Nat := if k = j then some 1000 else none
def ofK (j : Nat) (k : Nat) : Option Nat := if k = 1000 then some j else none

def Act.bare : Act := { tmps := #[], defers := [] }

/-- Called with args, the objects H0 under keys from 1000 on, the function f hands on r and leaves the objects H so that R r H. -/
def MCall (P : Program) (f : FuncId) (args : List DV) (H0 : List (Nat × Ob)) (R : DV → List (Nat × Ob) → Prop) : Prop :=
  ∀ (x : Fx) (κ : Nat → Nat) (w : World) (vs : List Value), x.ds = [] → (∀ k b, x.pin k = some b → 1000 ≤ k) → Sat x ⟨0, [], H0⟩ κ Act.bare w → args.length = vs.length →
    (∀ (i : Nat) (c : DV) (v : Value), args[i]? = some c → vs[i]? = some v → DRel w (x.S ⟨0, [], H0⟩ κ) κ c v) →
    Calls P f vs.toArray w fun e w' => ∃ v r H κ', e = .returned v ∧ R r H ∧ Sat x ⟨0, [], H⟩ κ' Act.bare w' ∧ DRel w' (x.S ⟨0, [], H⟩ κ') κ' r v

theorem MCall.mono {P : Program} {f : FuncId} {args : List DV} {H0 : List (Nat × Ob)} {R R' : DV → List (Nat × Ob) → Prop} (h : MCall P f args H0 R) (hr : ∀ r H, R r H → R' r H) : MCall P f args H0 R' :=
  fun x κ w vs h1 h2 h3 h4 h5 => (h x κ w vs h1 h2 h3 h4 h5).mono fun e w' ⟨v, r, H, κ', a, b, c⟩ => ⟨v, r, H, κ', a, hr _ _ b, c⟩

def argsM : Nat → List DV → List (Nat × DV)
  | _, [] => []
  | i, a :: r => (i, a) :: argsM (i + 1) r
theorem argsM_lk : ∀ (i : Nat) (l : List DV) (j : Nat) (d : DV), lk (argsM i l) j = some d → l[j - i]? = some d ∧ i ≤ j
  | i, [], j, d, h => by simp [argsM, lk] at h
  | i, p :: r, j, d, h => by
    simp only [argsM, lk_cons] at h
    split at h
    · rename_i e; subst e; cases h; exact ⟨by simp, Nat.le_refl _⟩
    · obtain ⟨h1, h3⟩ := argsM_lk (i + 1) r j d h
      refine ⟨?_, by omega⟩
      rw [show j - i = (j - (i + 1)) + 1 by omega, List.getElem?_cons_succ]
      exact h1

def retM (res : List DRes) (R : DV → List (Nat × Ob) → Prop) (e : Exit) (st : St) : Prop :=
  (e = .ret ∨ e = .normal) ∧ ∃ d, resD st res = some d ∧ R d st.H
@[simp] theorem retM_ret (res : List DRes) (R : DV → List (Nat × Ob) → Prop) (st : St) : retM res R .ret st = ∃ d, resD st res = some d ∧ R d st.H := by simp [retM]
@[simp] theorem retM_normal (res : List DRes) (R : DV → List (Nat × Ob) → Prop) (st : St) : retM res R .normal st = ∃ d, resD st res = some d ∧ R d st.H := by simp [retM]

section
variable {P : Program}

theorem mcall_of [DGood P] {f : FuncId} {args : List DV} {H0 : List (Nat × Ob)} {R : DV → List (Nat × Ob) → Prop} {D : DFn} (hf : compF P f = some D) (hl : args.length ≤ D.nt) (hnt : D.nt ≤ 1000)
    (h : ∀ x : Fx, Ok Fence.wide P D.nt x D.code (retM D.res R) ⟨D.nt, argsM 0 args, H0⟩) : MCall P f args H0 R := by
  intro x κ w vs hds hpin hs hlen hrel
  unfold compF at hf
  split at hf
  · rename_i fn hfn
    split at hf
    · rename_i c hc
      cases hf
      refine (callsIn_wide (n := 0)).1 (callsIn_of_wp hfn hc trivial ?_)
      have hs0 : Sat x ⟨fn.ntmps, argsM 0 args, H0⟩ κ { tmps := vs.toArray ++ Array.replicate (fn.ntmps - vs.toArray.size) undef, defers := [] } w := by
        refine ⟨hds.symm, ?_, ?_, hs.H, hs.inj, hs.mine, hs.fr, hs.s0, fun k b hk => ⟨(hs.pin k b hk).1, Nat.le_trans hnt (hpin k b hk)⟩⟩
        · simp at hl ⊢; omega
        · intro i d hd
          obtain ⟨h1, _⟩ := argsM_lk 0 args i d hd
          rw [Nat.sub_zero] at h1
          have hlt : i < vs.length := by rw [← hlen]; exact (List.getElem?_eq_some_iff.1 h1).1
          have hg : (vs.toArray ++ Array.replicate (fn.ntmps - vs.toArray.size) undef).getD i undef = vs[i] := by
            simp [Array.getD, Array.getElem_append, hlt]
            omega
          rw [hg]
          exact hrel i d _ h1 (List.getElem?_eq_getElem hlt)
      refine wpIn_mono (h x rfl c (DGood.body hfn hc) rfl 0 _ _ w hs0) ?_
      rintro e a' w' ⟨st', κ', ⟨he, d, h1, h3⟩, hs', hn'⟩
      obtain ⟨v, g1, g2⟩ := results_run hs' fn h1
      have fin : a'.defers = [] ∧ ∃ v, (results fn a'.tmps).run P w' = .ok v w' ∧ ∃ v_1 r H κ', Ending.returned v = Ending.returned v_1 ∧ R r H ∧ Sat x ⟨0, [], H⟩ κ' Act.bare w' ∧ DRel w' (x.S ⟨0, [], H⟩ κ') κ' r v_1 :=
        ⟨hs'.ds.trans hds, v, g1, v, d, st'.H, κ', rfl, h3,
          ⟨hds.symm, rfl, fun i d hd => by simp [lk] at hd, hs'.H, hs'.inj, hs'.mine, hs'.fr, hs'.s0, fun k b hk => ⟨(hs'.pin k b hk).1, Nat.zero_le _⟩⟩, g2⟩
      rcases he with rfl | rfl
      · exact fin
      · exact fin
    · cases hf
  · cases hf

theorem mcall_vc [DGood P] {f : FuncId} {args : List DV} {H0 : List (Nat × Ob)} {R : DV → List (Nat × Ob) → Prop} (D : { d : DFn // compF P f = some d }) (hl : args.length ≤ D.1.nt) (hnt : D.1.nt ≤ 1000)
    (h : ∀ (x : Fx) (K : DV → List (Nat × Ob) → Prop), (∀ r H, R r H → K r H) → VC Fence.wide P D.1.nt x D.1.code (retM D.1.res K) ⟨D.1.nt, argsM 0 args, H0⟩) : MCall P f args H0 R :=
  mcall_of D.2 hl hnt fun x => vc_ok .wide _ (h x R fun _ _ h => h)

variable {F : Fence} {nt : Nat} {x : Fx} {st : St}

theorem ObRel.pure_to {w : World} {S S' : Nat → Prop} {κ κ' : Nat → Nat} {k k' : Nat} {ro ro' : Bool} {sz : Nat} {rows : List (List PV)} (h : ObRel w S κ k ⟨ro, sz, .p rows⟩) (hk : κ' k' = κ k) (hS : ∀ b, b < w.heap.size → S' b → S b) : ObRel w S' κ' k' ⟨ro', sz, .p rows⟩ := by
  obtain ⟨wf, cur, e, hb, hlen, hc⟩ := h
  refine ⟨wf, cur, e, by rw [hk]; exact hb, hlen, fun i j d hd => ?_⟩
  obtain ⟨v, h1, h2, h3⟩ := hc i j d hd
  refine ⟨v, h1, h2, ?_⟩
  simp only [Rows.at, Option.map_eq_some_iff] at hd
  obtain ⟨c, _, rfl⟩ := hd
  cases h3 with | p _ _ h3 =>
  exact .p _ _ (h3.mono (Keep.refl _ _) hS)

/-- the callee's view of the caller's object j -/
def Fx.lend (x : Fx) (st : St) (κ : Nat → Nat) (j : Nat) (w : World) : Fx :=
  ⟨fun b => x.S st κ b ∧ b ≠ κ j, fun b => b = κ j, w, [], fun k => if k = 1000 then some (κ j) else none⟩
theorem lend_S {κ : Nat → Nat} {w : World} {j : Nat} {sz : Nat} {rows : List (List PV)} (hj : lk st.H j = some ⟨false, sz, .p rows⟩) (κ' : Nat → Nat) (hκ : κ' 1000 = κ j) (b : Nat) :
    (x.lend st κ j w).S ⟨0, [], [(1000, ⟨false, sz, .p rows⟩)]⟩ κ' b ↔ x.S st κ b := by
  constructor
  · rintro (⟨h, _⟩ | ⟨k, ob, hk, hro, he⟩)
    · exact h
    · simp only [lk] at hk
      split at hk
      · rename_i e; subst e; rw [← he, hκ]; exact Sat.ownedBlock hj rfl
      · cases hk
  · intro h
    by_cases e : b = κ j
    · subst e; exact .inr ⟨1000, ⟨false, sz, .p rows⟩, by simp [lk], rfl, hκ⟩
    · exact .inl ⟨h, e⟩
theorem Sat.lend {κ : Nat → Nat} {a : Act} {w : World} (hs : Sat x st κ a w) {j : Nat} {sz : Nat} {rows : List (List PV)} (hj : lk st.H j = some ⟨false, sz, .p rows⟩) :
    Sat (x.lend st κ j w) ⟨0, [], [(1000, ⟨false, sz, .p rows⟩)]⟩ (fun _ => κ j) Act.bare w := by
  have hb : κ j < w.heap.size := by
    obtain ⟨_, cur, e, hb, _⟩ := hs.H j _ hj
    exact getElem?_lt hb
  refine ⟨rfl, rfl, fun i d hd => by simp [lk] at hd, fun k ob hk => ?_, fun k k' ob ob' h1 h2 _ => ?_, fun k ob hk => ?_, Fr.refl _ _, fun b hb => hs.Slt b hb.1, fun k b hk => ?_⟩
  · simp only [lk] at hk
    split at hk
    · cases hk
      exact (hs.H j _ hj).pure_to rfl (fun b _ h => (lend_S hj (fun _ => κ j) rfl b).1 h)
    · cases hk
  · simp only [lk] at h1 h2
    split at h1
    · split at h2
      · omega
      · cases h2
    · cases h1
  · exact ⟨.inr rfl, fun h => h.2 rfl⟩
  · simp only [Fx.lend] at hk
    split at hk
    · cases hk; exact ⟨rfl, Nat.zero_le _⟩
    · cases hk

/-- a call that changes the object j in place -/
theorem oks_callb (hF : Free F) {R : St → Prop} {ops : List DOper} {d : Nat} {f : FuncId} {l : List DOpd} {g : Option (Nat × Bool)} (j : Nat) {sz : Nat} {rows : List (List PV)} {Rc : DV → List (Nat × Ob) → Prop}
    (hg : gOk st g) (hj : lk st.H j = some ⟨false, sz, .p rows⟩) (hc : MCall P f (l.map fun o => (st.ev o).rk (toK j)) [(1000, ⟨false, sz, .p rows⟩)] Rc)
    (h : ∀ r H, Rc r H → ∃ rows', lk H 1000 = some ⟨false, sz, .p rows'⟩ ∧ OkOps F P nt x ops R ((st.upd j ⟨false, sz, .p rows'⟩).set d (r.rk (ofK j)))) : OkOps F P nt x (⟨some d, .call f l, g⟩ :: ops) R st := by
  refine oks_call_gen hF hg fun hd κ a w hs vs hrel hl => ?_
  refine (hc (x.lend st κ j w) (fun _ => κ j) w vs rfl (fun k b hk => ?_) (hs.lend hj) (by simpa using hl) (fun i c v hc hv => ?_)).mono ?_
  · simp only [Fx.lend] at hk
    split at hk
    · rename_i e; omega
    · cases hk
  · simp only [List.getElem?_map, Option.map_eq_some_iff] at hc
    obtain ⟨o, ho, rfl⟩ := hc
    have := hrel i (st.ev o) v (by simp [ho]) hv
    refine (this.rk (toK j) (κ' := fun _ => κ j) (fun k k' hk => ?_)).mono (Keep.refl _ _) (fun b _ h => (lend_S hj (fun _ => κ j) rfl b).1 h)
    unfold toK at hk
    split at hk
    · rename_i e; rw [e]
    · cases hk
  · rintro e w' ⟨v, r, H, κ', rfl, hr, hs', hv⟩
    obtain ⟨rows', hrows, hok⟩ := h r H hr
    have hpin : κ' 1000 = κ j := (hs'.pin 1000 (κ j) (by simp [Fx.lend])).1
    have hSb : ∀ b, b < w'.heap.size → x.S st κ b → (x.lend st κ j w).S ⟨0, [], H⟩ κ' b := by
      intro b _ hb
      by_cases e : b = κ j
      · exact .inr ⟨1000, _, hrows, rfl, by rw [hpin, e]⟩
      · exact .inl ⟨hb, e⟩
    have h1 := hs.updOb j _ hj rfl ⟨false, sz, .p rows'⟩ hs'.fr rfl ((hs'.H 1000 _ hrows).pure_to hpin.symm hSb)
    have hSe : ∀ b, x.S (st.upd j ⟨false, sz, .p rows'⟩) κ b → x.S st κ b := by
      rintro b (hb | ⟨k, ob, hk, hro, he⟩)
      · exact .inl hb
      · simp only [St.upd, lk_cons] at hk
        split at hk
        · rename_i e; rw [← he, ← e]; exact Sat.ownedBlock hj rfl
        · exact .inr ⟨k, ob, hk, hro, he⟩
    have h2 := h1.set d hd (r.rk (ofK j)) v ((hv.rk (ofK j) (κ' := κ) (fun k k' hk => by
      unfold ofK at hk
      split at hk
      · rename_i e; cases hk; rw [e, hpin]
      · cases hk)).mono (Keep.refl _ _) (fun b hb hh => hSb b hb (hSe b hh)))
    exact ⟨v, _, κ, rfl, h2, rfl, hok⟩

/-- a call that takes the object j, and hands on one -/
theorem oks_callm (hF : Free F) {R : St → Prop} {ops : List DOper} {d : Nat} {f : FuncId} {l : List DOpd} {g : Option (Nat × Bool)} (j : Nat) {sz : Nat} {rows : List (List PV)} {Rc : DV → List (Nat × Ob) → Prop}
    (hg : gOk st g) (hj : lk st.H j = some ⟨false, sz, .p rows⟩) (hc : MCall P f (l.map fun o => (st.ev o).rk (toK j)) [(1000, ⟨false, sz, .p rows⟩)] Rc)
    (h : ∀ r H, Rc r H → ∃ k sz' s len room rows', r = .own k sz' s len room ∧ lk H k = some ⟨false, sz', .p rows'⟩ ∧ OkOps F P nt x ops R ((st.drop j).new d ⟨false, sz', .p rows'⟩ (.own d sz' s len room))) :
    OkOps F P nt x (⟨some d, .call f l, g⟩ :: ops) R st := by
  refine oks_call_gen hF hg fun hd κ a w hs vs hrel hl => ?_
  refine (hc (x.lend st κ j w) (fun _ => κ j) w vs rfl (fun k b hk => ?_) (hs.lend hj) (by simpa using hl) (fun i c v hc hv => ?_)).mono ?_
  · simp only [Fx.lend] at hk
    split at hk
    · rename_i e; omega
    · cases hk
  · simp only [List.getElem?_map, Option.map_eq_some_iff] at hc
    obtain ⟨o, ho, rfl⟩ := hc
    have := hrel i (st.ev o) v (by simp [ho]) hv
    refine (this.rk (toK j) (κ' := fun _ => κ j) (fun k k' hk => ?_)).mono (Keep.refl _ _) (fun b _ h => (lend_S hj (fun _ => κ j) rfl b).1 h)
    unfold toK at hk
    split at hk
    · rename_i e; rw [e]
    · cases hk
  · rintro e w' ⟨v, r, H, κ', rfl, hr, hs', hv⟩
    obtain ⟨k, sz', s, len, room, rows', rfl, hrows, hok⟩ := h r H hr
    have hm := hs'.mine k _ hrows
    have hSb : ∀ S : Nat → Prop, (∀ c, S c → (x.S st κ c ∧ c ≠ κ j) ∨ c = κ' k) → ∀ b, b < w'.heap.size → S b → (x.lend st κ j w).S ⟨0, [], H⟩ κ' b := by
      intro S hS b _ hb
      rcases hS b hb with h | h
      · exact .inl h
      · exact .inr ⟨k, _, hrows, rfl, h.symm⟩
    refine ⟨v, _, _, rfl, hs.moveTo j _ hj rfl (κ' k) (by
      rcases hm.1 with h | h
      · exact .inr h
      · exact .inl h) d hd ⟨false, sz', .p rows'⟩ (.own d sz' s len room) v hs'.fr (fun S hS => (hs'.H k _ hrows).pure_to (by rw [upd_same]) (hSb S hS)) (fun S hS => ?_), rfl, hok⟩
    have h1 := hv.mono (Keep.refl _ _) (hSb S hS)
    have h2 := h1.rk (fun i => if i = k then some d else none) (κ' := upd κ d (κ' k)) (fun i i' hi => by
      split at hi
      · rename_i e; cases hi; rw [e, upd_same]
      · cases hi)
    simpa [DV.rk] using h2

/-- a call that hands on an object of its own -/
theorem oks_calln (hF : Free F) {R : St → Prop} {ops : List DOper} {d : Nat} {f : FuncId} {l : List DOpd} {g : Option (Nat × Bool)} {ps : List PV} {Rc : DV → List (Nat × Ob) → Prop}
    (hg : gOk st g) (hp : pures (l.map st.ev) = some ps) (hc : MCall P f (ps.map .p) [] Rc)
    (h : ∀ r H, Rc r H → ∃ k sz' s len room rows', r = .own k sz' s len room ∧ lk H k = some ⟨false, sz', .p rows'⟩ ∧ OkOps F P nt x ops R (st.new d ⟨false, sz', .p rows'⟩ (.own d sz' s len room))) :
    OkOps F P nt x (⟨some d, .call f l, g⟩ :: ops) R st := by
  refine oks_call_gen hF hg fun hd κ a w hs vs hrel hl => ?_
  obtain ⟨p1, p2⟩ := pures_rel hp hrel
  let x' : Fx := ⟨x.S st κ, fun _ => False, w, [], fun _ => none⟩
  have hx' : ∀ κ' b, x'.S ⟨0, [], []⟩ κ' b → x.S st κ b := by
    rintro κ' b (h | ⟨k, ob, hk, _⟩)
    · exact h
    · simp [lk] at hk
  refine (hc x' κ w vs rfl (fun k b hk => by cases hk) ⟨rfl, rfl, fun i d hd => by simp [lk] at hd, fun k ob hk => by simp [lk] at hk, fun k k' ob ob' hk => by simp [lk] at hk, fun k ob hk => by simp [lk] at hk,
    Fr.refl _ _, hs.Slt, fun k b hk => by cases hk⟩ (by simp at p1 hl ⊢; omega) (fun i c v hc hv => ?_)).mono ?_
  · simp only [List.getElem?_map, Option.map_eq_some_iff] at hc
    obtain ⟨q, hq, rfl⟩ := hc
    exact .p _ _ ((p2 i q v hq hv).mono (Keep.refl _ _) (fun b _ h => hx' κ b h))
  · rintro e w' ⟨v, r, H, κ', rfl, hr, hs', hv⟩
    obtain ⟨k, sz', s, len, room, rows', rfl, hrows, hok⟩ := h r H hr
    have hm := hs'.mine k _ hrows
    have hnew : w.heap.size ≤ κ' k := by
      rcases hm.1 with h | h
      · exact h
      · exact h.elim
    have hSb : ∀ S : Nat → Prop, (∀ c, S c → x.S st κ c ∨ c = κ' k) → ∀ b, b < w'.heap.size → S b → x'.S ⟨0, [], H⟩ κ' b := by
      intro S hS b _ hb
      rcases hS b hb with h | h
      · exact .inl h
      · exact .inr ⟨k, _, hrows, rfl, h.symm⟩
    refine ⟨v, _, _, rfl, hs.newTo d hd ⟨false, sz', .p rows'⟩ (.own d sz' s len room) v (κ' k) hs'.fr hnew (fun S hS _ => (hs'.H k _ hrows).pure_to (by rw [upd_same]) (hSb S hS)) (fun S hS _ => ?_), rfl, hok⟩
    have h1 := hv.mono (Keep.refl _ _) (hSb S hS)
    have h2 := h1.rk (fun i => if i = k then some d else none) (κ' := upd κ d (κ' k)) (fun i i' hi => by
      split at hi
      · rename_i e; cases hi; rw [e, upd_same]
      · cases hi)
    simpa [DV.rk] using h2
end
attribute [simp] DV.rk DV.rkL toK ofK argsM frzD frzT frzRows frzH St.frz St.only filt DV.purgeL
end Go.Dl
