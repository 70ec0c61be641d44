/- Empty slices of any size of elements are alike. -/
import Derived.Test.YtjmhdfcmghmgjaaDoorDlQ
set_option linter.unusedVariables false
set_option linter.unusedSimpArgs false
namespace Go.Dl

@[simp] def PV.rsz0 : PV → PV → Prop
  | .sl o sz rows sp, q => match q with
    | .sl o' sz' rows' sp' => o = o' ∧ rows = rows' ∧ sp = sp' ∧ (sz = sz' ∨ (rows = [] ∧ sp = []))
    | _ => False
  | p, q => p = q
@[simp] def rszL0 : List PV → List PV → Prop
  | [], [] => True
  | p :: ps, q :: qs => p.rsz0 q ∧ rszL0 ps qs
  | _, _ => False
@[simp] def PV.rsz1 : PV → PV → Prop
  | .agg cs, q => match q with
    | .agg ds => rszL0 cs ds
    | _ => False
  | p, q => p.rsz0 q
@[simp] def rszL1 : List PV → List PV → Prop
  | [], [] => True
  | p :: ps, q :: qs => p.rsz1 q ∧ rszL1 ps qs
  | _, _ => False
@[simp] def PV.rsz : PV → PV → Prop
  | .tup cs, q => match q with
    | .tup ds => rszL1 cs ds
    | _ => False
  | p, q => p.rsz1 q

section
variable {w : World} {S : Nat → Prop}
theorem PRel.rsz0 {p q : PV} {v : Value} (h : PRel w S p v) (hr : p.rsz0 q) : PRel w S q v := by
  cases p with
  | sl o sz rows sp =>
    cases q with
    | sl o' sz' rows' sp' =>
      simp only [PV.rsz0] at hr
      obtain ⟨rfl, rfl, rfl, hsz⟩ := hr
      rcases hsz with rfl | ⟨rfl, rfl⟩
      · exact h
      · cases h with
        | slnil _ _ ho => exact .slnil _ _ ho
        | sl _ ho _ _ _ b off cap f h1 hb _ hcap hmax _ _ =>
          exact .sl o ho sz' [] [] b off cap f h1 hb (fun r hr => by simp at hr) hcap hmax (fun i j c hc => by simp [rowAt] at hc) (fun i j c hc => by simp [rowAt] at hc)
    | _ => simp [PV.rsz0] at hr
  | _ => simp only [PV.rsz0] at hr; subst hr; exact h
theorem rszL0_get : ∀ {ps qs : List PV}, rszL0 ps qs → ps.length = qs.length ∧ ∀ (i : Nat) (q : PV), qs[i]? = some q → ∃ p, ps[i]? = some p ∧ p.rsz0 q
  | [], [], _ => ⟨rfl, fun i q h => by simp at h⟩
  | p :: ps, q :: qs, h => by
    obtain ⟨h1, h2⟩ := rszL0_get h.2
    refine ⟨by simp [h1], fun i q' hq => ?_⟩
    cases i with
    | zero => simp at hq; subst hq; exact ⟨p, rfl, h.1⟩
    | succ i => simpa using h2 i q' (by simpa using hq)
  | [], _ :: _, h => h.elim
  | _ :: _, [], h => h.elim
theorem PRel.rsz1 {p q : PV} {v : Value} (h : PRel w S p v) (hr : p.rsz1 q) : PRel w S q v := by
  cases p with
  | agg cs =>
    cases q with
    | agg ds =>
      cases h with | agg _ vs hl hrel =>
      obtain ⟨h1, h2⟩ := rszL0_get (show rszL0 cs ds from hr)
      refine .agg ds vs (by rw [← h1, hl]) fun i c v hc hv => ?_
      obtain ⟨p, hp, hpq⟩ := h2 i c hc
      exact (hrel i p v hp hv).rsz0 hpq
    | _ => simp [PV.rsz1] at hr
  | _ => exact h.rsz0 hr
theorem rszL1_get : ∀ {ps qs : List PV}, rszL1 ps qs → ps.length = qs.length ∧ ∀ (i : Nat) (q : PV), qs[i]? = some q → ∃ p, ps[i]? = some p ∧ p.rsz1 q
  | [], [], _ => ⟨rfl, fun i q h => by simp at h⟩
  | p :: ps, q :: qs, h => by
    obtain ⟨h1, h2⟩ := rszL1_get h.2
    refine ⟨by simp [h1], fun i q' hq => ?_⟩
    cases i with
    | zero => simp at hq; subst hq; exact ⟨p, rfl, h.1⟩
    | succ i => simpa using h2 i q' (by simpa using hq)
  | [], _ :: _, h => h.elim
  | _ :: _, [], h => h.elim
theorem PRel.rsz {p q : PV} {v : Value} (h : PRel w S p v) (hr : p.rsz q) : PRel w S q v := by
  cases p with
  | tup cs =>
    cases q with
    | tup ds =>
      cases h with | tup _ vs hl hrel =>
      obtain ⟨h1, h2⟩ := rszL1_get (show rszL1 cs ds from hr)
      refine .tup ds vs (by rw [← h1, hl]) fun i c v hc hv => ?_
      obtain ⟨p, hp, hpq⟩ := h2 i c hc
      exact (hrel i p v hp hv).rsz1 hpq
    | _ => simp [PV.rsz] at hr
  | _ => exact h.rsz1 hr
end

section
variable {F : Fence} {P : Program} {nt : Nat} {x : Fx} {st : St} {f : FuncId}

theorem PCall.rsz_res {args : List PV} {R : PV → Prop} (h : PCall P f args (fun r => ∃ r', r.rsz r' ∧ R r')) : PCall P f args R :=
  fun w S vs h1 h2 h3 => (h w S vs h1 h2 h3).mono fun e w' ⟨v, r, a, ⟨r', hr, hR⟩, c, d⟩ => ⟨v, r', a, hR, c, d.rsz hr⟩
theorem PCall.rsz_args {args qs : List PV} {R : PV → Prop} (h : PCall P f qs R) (hz : rszL1 args qs) : PCall P f args R := by
  intro w S vs h1 h2 h3
  obtain ⟨hl, hg⟩ := rszL1_get hz
  refine h w S vs h1 (by rw [← hl, h2]) fun i c v hc hv => ?_
  obtain ⟨p, hp, hpq⟩ := hg i c hc
  exact (h3 i p v hp hv).rsz1 hpq

/-- a function's contract by what is owed for its body; empty slices are alike -/
theorem pcall_vcz [DGood P] {args : List PV} {R : PV → Prop} (D : { d : DFn // compF P f = some d }) (hl : args.length ≤ D.1.nt)
    (h : ∀ (x : Fx) (K : PV → Prop), (∀ r r', R r' → r.rsz r' → K r) → VC Fence.wide P D.1.nt x D.1.code (retQ D.1.res K) ⟨D.1.nt, argsT 0 args, []⟩) : PCall P f args R :=
  PCall.rsz_res (pcall_of D.2 hl fun x => vc_ok .wide _ (h x (fun r => ∃ r', r.rsz r' ∧ R r') fun r r' h1 h2 => ⟨r', h2, h1⟩))

/-- a pure call, whose arguments read as qs -/
theorem oks_callz (ks : List Nat) (hF : Free F) {R : St → Prop} {ops : List DOper} {d : Nat} {f : FuncId} {l : List DOpd} {g : Option (Nat × Bool)} {ps : List PV} (qs : List PV) {Rc : PV → Prop}
    (hc : PCall P f qs Rc) (hg : gOk (st.frz ks) g) (hp : pures (l.map (st.frz ks).ev) = some ps) (hz : rszL1 (ps.map PV.norm) qs) (h : ∀ r, Rc r → OkOps F P nt x ops R ((st.frz ks).set d (.p r))) : OkOps F P nt x (⟨some d, .call f l, g⟩ :: ops) R st :=
  oks_callf ks hF hg hp (hc.rsz_args hz) h
/-- a call that only looks -/
theorem oks_callsz (hF : Free F) {R : St → Prop} {ops : List DOper} {d : Nat} {f : FuncId} {l : List DOpd} {g : Option (Nat × Bool)} {ps : List PV} (qs : List PV) {Rc : PV → Prop}
    (hc : PCall P f qs Rc) (hg : gOk st g) (hp : snapL st (l.map st.ev) = some ps) (hz : rszL1 ps qs) (hsc : ∀ r, Rc r → r.scalar = true) (h : ∀ r, Rc r → OkOps F P nt x ops R (st.set d (.p r))) : OkOps F P nt x (⟨some d, .call f l, g⟩ :: ops) R st :=
  oks_calls hF hg hp (hc.rsz_args hz) hsc h
theorem dcall_pz {f : Nat} {l : List DOpd} {st : St} {k : DV → Prop} {ps : List PV} (qs : List PV) (r : PV) (hc : PCall P f qs (· = r)) (hp : pures (l.map st.ev) = some ps) (hz : rszL1 (ps.map PV.norm) qs) (hk : k (.p r)) : dcall P f l st k :=
  dcall_p r hp (hc.rsz_args hz) hk
theorem dcall_sz {f : Nat} {l : List DOpd} {st : St} {k : DV → Prop} {ps : List PV} (qs : List PV) (r : PV) (hc : PCall P f qs (· = r)) (hp : snapL st (l.map st.ev) = some ps) (hz : rszL1 ps qs) (hs : r.scalar = true) (hk : k (.p r)) : dcall P f l st k :=
  dcall_s r hp (hc.rsz_args hz) hs hk
end
end Go.Dl
