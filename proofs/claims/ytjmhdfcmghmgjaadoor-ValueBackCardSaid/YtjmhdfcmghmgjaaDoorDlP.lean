/- Draws, reckoned by simp; what is nil or not; calls resolved. A slice of which it is not known whether it is nil: two cases. -/
import Derived.Test.YtjmhdfcmghmgjaaDoorDlN
set_option linter.unusedVariables false
set_option linter.unusedSimpArgs false
namespace Go.Dl

def KD (P : Program) (sk : List (Nat × Nat)) (ks : List Nat) (n : Nat) (o : DOper) (ops : List Dr) (R : St → Prop) (st : St) (e : Ef) : Prop := dvc P sk ks n ops R (st.eff o.dst e)
@[simp] theorem KD_eq (P : Program) (sk : List (Nat × Nat)) (ks : List Nat) (n : Nat) (o : DOper) (ops : List Dr) (R : St → Prop) (st : St) (e : Ef) : KD P sk ks n o ops R st e = dvc P sk ks n ops R (st.eff o.dst e) := propext Iff.rfl
@[simp] theorem KV_eq (k : Ef → Prop) (v : DV) : KV k v = k (.v v) := propext Iff.rfl
@[simp] theorem dvc_nil (P : Program) (sk : List (Nat × Nat)) (ks : List Nat) (n : Nat) (R : St → Prop) (st : St) : dvc P sk ks n [] R st = R st := propext Iff.rfl
@[simp] theorem dvc_cons (P : Program) (sk : List (Nat × Nat)) (ks : List Nat) (n : Nat) (o : DOper) (l : List Nat × List Nat) (ops : List Dr) (R : St → Prop) (st : St) : dvc P sk ks n ((o, l) :: ops) R st = (match o.g with
    | none => dv1 P o (st.lim sk ks l) (lk sk n) (KD P sk ks (n + 1) o ops R st)
    | some (i, want) => match (st.lim sk ks l).get i with
      | .p (.bool b) => if b = want then dv1 P o (st.lim sk ks l) (lk sk n) (KD P sk ks (n + 1) o ops R st) else dvc P sk ks (n + 1) ops R (st.setO o.dst (.p (.tup [])))
      | .p (.tup []) => dvc P sk ks (n + 1) ops R (st.setO o.dst (.p (.tup [])))
      | _ => False) := propext Iff.rfl
attribute [simp] dv1 dst1 dheap isHp St.lim St.setO St.eff dks canH

theorem dcall_p {P : Program} {f : Nat} {l : List DOpd} {st : St} {k : DV → Prop} {ps : List PV} (r : PV) (hp : pures (l.map st.ev) = some ps) (hc : PCall P f (ps.map PV.norm) (· = r)) (hk : k (.p r)) : dcall P f l st k :=
  ⟨ps, r, .inl ⟨hp, hc⟩, hk⟩
theorem dcall_s {P : Program} {f : Nat} {l : List DOpd} {st : St} {k : DV → Prop} {ps : List PV} (r : PV) (hp : snapL st (l.map st.ev) = some ps) (hc : PCall P f ps (· = r)) (hs : r.scalar = true) (hk : k (.p r)) : dcall P f l st k :=
  ⟨ps, r, .inr ⟨hp, hc, hs⟩, hk⟩
end Go.Dl
set_option linter.unusedVariables false
set_option linter.unusedSimpArgs false
namespace Go.Dl

theorem PRel.nilcase {w : World} {S : Nat → Prop} {sz : Nat} {rows sp : List (List PV)} {v : Value} (h : PRel w S (.sl none sz rows sp) v) :
    PRel w S (.sl (some false) sz rows sp) v ∨ (rows = [] ∧ sp = [] ∧ PRel w S (.sl (some true) sz [] []) v) := by
  cases h with
  | slnil o sz ho => exact .inr ⟨rfl, rfl, .slnil _ _ (by simp)⟩
  | sl o ho sz rows spare b off cap f h1 hb hsz hcap hmax hcell hrel => exact .inl (.sl (some false) (by simp) sz rows sp b off cap f h1 hb hsz hcap hmax hcell hrel)

section
variable {F : Fence} {P : Program} {nt : Nat} {x : Fx} {st : St} {f : FuncId}

theorem PCall.nilcase (l1 : List PV) {l2 : List PV} {sz : Nat} {rows sp : List (List PV)} {R : PV → Prop} (h1 : PCall P f (l1 ++ .sl (some false) sz rows sp :: l2) R)
    (h2 : rows = [] → sp = [] → PCall P f (l1 ++ .sl (some true) sz [] [] :: l2) R) : PCall P f (l1 ++ .sl none sz rows sp :: l2) R := by
  intro w S vs hS hl hrel
  have hk : l1.length < vs.length := by rw [← hl]; simp
  have hv := hrel l1.length (.sl none sz rows sp) vs[l1.length] (by simp) (List.getElem?_eq_getElem hk)
  have key : ∀ p : PV, PRel w S p vs[l1.length] → ∀ (i : Nat) (c : PV) (v : Value), (l1 ++ p :: l2)[i]? = some c → vs[i]? = some v → PRel w S c v := by
    intro p hp i c v hc hv'
    by_cases e : i = l1.length
    · subst e
      simp at hc
      subst hc
      rw [List.getElem?_eq_getElem hk] at hv'
      cases hv'
      exact hp
    · refine hrel i c v ?_ hv'
      rcases Nat.lt_or_gt_of_ne e with e | e
      · rw [List.getElem?_append_left e] at hc ⊢; exact hc
      · rw [List.getElem?_append_right (by omega)] at hc ⊢
        obtain ⟨m, hm⟩ : ∃ m, i - l1.length = m + 1 := ⟨i - l1.length - 1, by omega⟩
        rw [hm] at hc ⊢
        simpa using hc
  rcases hv.nilcase with h | ⟨r1, r2, h⟩
  · exact h1 w S vs hS (by simpa using hl) (key _ h)
  · exact h2 r1 r2 w S vs hS (by simpa using hl) (key _ h)

theorem MCall.nilcase (l1 : List DV) {l2 : List DV} {H0 : List (Nat × Ob)} {sz : Nat} {rows sp : List (List PV)} {R : DV → List (Nat × Ob) → Prop} (h1 : MCall P f (l1 ++ .p (.sl (some false) sz rows sp) :: l2) H0 R)
    (h2 : rows = [] → sp = [] → MCall P f (l1 ++ .p (.sl (some true) sz [] []) :: l2) H0 R) : MCall P f (l1 ++ .p (.sl none sz rows sp) :: l2) H0 R := by
  intro x κ w vs hds hpin hs hl hrel
  have hk : l1.length < vs.length := by rw [← hl]; simp
  have hv := hrel l1.length (.p (.sl none sz rows sp)) vs[l1.length] (by simp) (List.getElem?_eq_getElem hk)
  have key : ∀ p : DV, DRel w (x.S ⟨0, [], H0⟩ κ) κ p vs[l1.length] → ∀ (i : Nat) (c : DV) (v : Value), (l1 ++ p :: l2)[i]? = some c → vs[i]? = some v → DRel w (x.S ⟨0, [], H0⟩ κ) κ c v := by
    intro p hp i c v hc hv'
    by_cases e : i = l1.length
    · subst e
      simp at hc
      subst hc
      rw [List.getElem?_eq_getElem hk] at hv'
      cases hv'
      exact hp
    · refine hrel i c v ?_ hv'
      rcases Nat.lt_or_gt_of_ne e with e | e
      · rw [List.getElem?_append_left e] at hc ⊢; exact hc
      · rw [List.getElem?_append_right (by omega)] at hc ⊢
        obtain ⟨m, hm⟩ : ∃ m, i - l1.length = m + 1 := ⟨i - l1.length - 1, by omega⟩
        rw [hm] at hc ⊢
        simpa using hc
  cases hv with | p _ _ hv =>
  rcases hv.nilcase with h | ⟨r1, r2, h⟩
  · exact h1 x κ w vs hds hpin hs (by simpa using hl) (key _ (.p _ _ h))
  · exact h2 r1 r2 x κ w vs hds hpin hs (by simpa using hl) (key _ (.p _ _ h))

/-- a slot is seen otherwise -/
theorem Sat.reslot {κ : Nat → Nat} {a : Act} {w : World} (h : Sat x st κ a w) (i : Nat) (d : DV) (hd : DRel w (x.S st κ) κ d (a.tmps.getD i undef)) : Sat x (st.set i d) κ a w where
  ds := h.ds
  nt := h.nt
  T := by
    intro j d' hj
    simp only [St.set, lk_cons] at hj
    split at hj
    · rename_i e; subst e; cases hj; exact hd
    · exact h.T j d' hj
  H := h.H
  inj := h.inj
  mine := h.mine
  fr := h.fr
  s0 := h.s0
  pin := h.pin

theorem Sat.nilcase {κ : Nat → Nat} {a : Act} {w : World} (h : Sat x st κ a w) (i : Nat) {sz : Nat} {rows sp : List (List PV)} (hi : st.get i = .p (.sl none sz rows sp)) :
    Sat x (st.set i (.p (.sl (some false) sz rows sp))) κ a w ∨ (rows = [] ∧ sp = [] ∧ Sat x (st.set i (.p (.sl (some true) sz [] []))) κ a w) := by
  have hg := h.get i
  rw [hi] at hg
  cases hg with | p _ _ hg =>
  rcases hg.nilcase with h' | ⟨r1, r2, h'⟩
  · exact .inl (h.reslot i _ (.p _ _ h'))
  · exact .inr ⟨r1, r2, h.reslot i _ (.p _ _ h')⟩

theorem oks_nilcase (i : Nat) {sz : Nat} {rows sp : List (List PV)} (hi : st.get i = .p (.sl none sz rows sp)) {ops : List DOper} {R : St → Prop} (h1 : OkOps F P nt x ops R (st.set i (.p (.sl (some false) sz rows sp))))
    (h2 : rows = [] → sp = [] → OkOps F P nt x ops R (st.set i (.p (.sl (some true) sz [] [])))) : OkOps F P nt x ops R st := by
  intro hn arr idx hidx n κ a w hs K hK
  rcases hs.nilcase i hi with h | ⟨r1, r2, h⟩
  · exact h1 hn arr idx hidx n κ a w h K hK
  · exact h2 r1 r2 hn arr idx hidx n κ a w h K hK
theorem ok_nilcase (i : Nat) {sz : Nat} {rows sp : List (List PV)} (hi : st.get i = .p (.sl none sz rows sp)) {dc : DCode} {Q : Exit → St → Prop} (h1 : Ok F P nt x dc Q (st.set i (.p (.sl (some false) sz rows sp))))
    (h2 : rows = [] → sp = [] → Ok F P nt x dc Q (st.set i (.p (.sl (some true) sz [] [])))) : Ok F P nt x dc Q st := by
  intro hn c hd hc n κ a w hs
  rcases hs.nilcase i hi with h | ⟨r1, r2, h⟩
  · exact h1 hn c hd hc n κ a w h
  · exact h2 r1 r2 hn c hd hc n κ a w h
end

/-- operations from here on, reckoned -/
theorem oks_vc {F : Fence} {P : Program} {nt : Nat} {x : Fx} {st : St} (hF : Free F) {ops : List DOper} {R : St → Prop} (h : VCn F P nt x ops R st) : OkOps F P nt x ops R st := vcops_ok hF ops h
end Go.Dl
