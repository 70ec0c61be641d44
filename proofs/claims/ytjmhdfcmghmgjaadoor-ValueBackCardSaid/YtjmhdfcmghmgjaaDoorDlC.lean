/- What a symbolic state says of the machine's slots and memory; how that is kept. -/
import Derived.Test.YtjmhdfcmghmgjaaDoorDlB
set_option linter.unusedVariables false
set_option linter.unusedSimpArgs false
namespace Go.Dl

structure Fx where
  S0 : Nat → Prop
  X : Nat → Prop
  w0 : World
  ds : List Deferred
  pin : Nat → Option Nat

/-- w' is w but for new blocks and blocks of X. -/
structure Fr (X : Nat → Prop) (w w' : World) : Prop where
  os : w'.os = w.os
  tape : w'.tape = w.tape
  output : w'.output = w.output
  size : w.heap.size ≤ w'.heap.size
  block : ∀ b, b < w.heap.size → ¬ X b → w'.heap[b]? = w.heap[b]?
  shape : ∀ (b : Nat) (cur : Array Value) (e : TypeId) (fr : Nat × Nat), w.heap[b]? = some (.cells cur e fr) → ∃ cur' fr', w'.heap[b]? = some (.cells cur' e fr') ∧ cur'.size = cur.size

theorem Fr.refl (X : Nat → Prop) (w : World) : Fr X w w := ⟨rfl, rfl, rfl, Nat.le_refl _, fun _ _ _ => rfl, fun _ cur _ fr h => ⟨cur, fr, h, rfl⟩⟩
theorem Fr.trans {X : Nat → Prop} {a b c : World} (h : Fr X a b) (k : Fr X b c) : Fr X a c :=
  ⟨k.os.trans h.os, k.tape.trans h.tape, k.output.trans h.output, Nat.le_trans h.size k.size,
   fun i hi hx => (k.block i (Nat.lt_of_lt_of_le hi h.size) hx).trans (h.block i hi hx),
   fun b cur e fr hb => by
    obtain ⟨c1, f1, h1, s1⟩ := h.shape b cur e fr hb
    obtain ⟨c2, f2, h2, s2⟩ := k.shape b c1 e f1 h1
    exact ⟨c2, f2, h2, s2.trans s1⟩⟩
theorem Fr.trans' {X Y : Nat → Prop} {a b c : World} (h : Fr X a b) (k : Fr Y b c) (hXY : ∀ i, i < a.heap.size → Y i → X i) : Fr X a c :=
  ⟨k.os.trans h.os, k.tape.trans h.tape, k.output.trans h.output, Nat.le_trans h.size k.size,
   fun i hi hx => (k.block i (Nat.lt_of_lt_of_le hi h.size) (fun hy => hx (hXY i hi hy))).trans (h.block i hi hx),
   fun b cur e fr hb => by
    obtain ⟨c1, f1, h1, s1⟩ := h.shape b cur e fr hb
    obtain ⟨c2, f2, h2, s2⟩ := k.shape b c1 e f1 h1
    exact ⟨c2, f2, h2, s2.trans s1⟩⟩
theorem Fr.keep {X : Nat → Prop} {w w' : World} (h : Fr X w w') {S : Nat → Prop} (hS : ∀ b, b < w.heap.size → X b → S b) : Keep S w w' :=
  ⟨h.size, fun b hb hn => h.block b hb (fun hx => hn (hS b hb hx)), h.shape⟩

theorem getElem?_lt {w : World} {b : Nat} {o : Obj} (h : w.heap[b]? = some o) : b < w.heap.size := (Array.getElem?_eq_some_iff.1 h).1

theorem DRel.mono {w w' : World} {S S' : Nat → Prop} {κ : Nat → Nat} {d : DV} {v : Value} (h : DRel w S κ d v) (hk : Keep S w w') (hS : ∀ b, b < w.heap.size → S' b → S b) : DRel w' S' κ d v := by
  induction h with
  | undef => exact .undef _
  | p v x h => exact .p _ _ (h.mono hk hS)
  | own k sz start len room cap o h1 h2 h3 h4 cur e fr hb hfit =>
    obtain ⟨cur', fr', hb', hs⟩ := hk.shape _ _ _ _ hb
    exact .own k sz start len room cap o h1 h2 h3 h4 cur' e fr' hb' (by rw [hs]; exact hfit)
  | ownnil k sz => exact .ownnil _ _
  | ptr => exact .ptr _ _ _ _
  | agg cs vs hl _ ih => exact .agg cs vs hl ih
  | tup cs vs hl _ ih => exact .tup cs vs hl ih
  | fn g fs cs us vs h1 h2 _ _ ih1 ih2 => exact .fn g fs cs us vs h1 h2 ih1 ih2

theorem refsL_get {k : Nat} : ∀ {cs : List DV}, DV.refsL k cs = false → ∀ (i : Nat) (c : DV), cs[i]? = some c → DV.refs k c = false
  | [], _, i, c, h => by simp at h
  | d :: r, h, i, c, hc => by
    simp only [DV.refsL, Bool.or_eq_false_iff] at h
    cases i with
    | zero => simp at hc; rw [← hc]; exact h.1
    | succ i => exact refsL_get h.2 i c (by simpa using hc)

theorem DRel.rekey {w : World} {S : Nat → Prop} {κ κ' : Nat → Nat} {d : DV} {v : Value} (k : Nat) (h : DRel w S κ d v) (hκ : ∀ j, j ≠ k → κ' j = κ j) (hr : d.refs k = false) : DRel w S κ' d v := by
  induction h with
  | undef => exact .undef _
  | p v x h => exact .p _ _ h
  | own k' sz start len room cap o h1 h2 h3 h4 cur e fr hb hfit =>
    have hne : k' ≠ k := by simpa [DV.refs] using hr
    rw [← hκ k' hne] at hb ⊢
    exact .own k' sz start len room cap o h1 h2 h3 h4 cur e fr hb hfit
  | ownnil k sz => exact .ownnil _ _
  | ptr k' sz i off =>
    have hne : k' ≠ k := by simpa [DV.refs] using hr
    rw [← hκ k' hne]
    exact .ptr _ _ _ _
  | agg cs vs hl _ ih => exact .agg cs vs hl fun i c v hc hv => ih i c v hc hv (refsL_get (by simpa [DV.refs] using hr) i c hc)
  | tup cs vs hl _ ih => exact .tup cs vs hl fun i c v hc hv => ih i c v hc hv (refsL_get (by simpa [DV.refs] using hr) i c hc)
  | fn g fs cs us vs h1 h2 _ _ ih1 ih2 =>
    have hr' : DV.refsL k fs = false ∧ DV.refsL k cs = false := by simpa [DV.refs] using hr
    exact .fn g fs cs us vs h1 h2 (fun i c v hc hv => ih1 i c v hc hv (refsL_get hr'.1 i c hc)) (fun i c v hc hv => ih2 i c v hc hv (refsL_get hr'.2 i c hc))

theorem DRel.purge {w : World} {S : Nat → Prop} {κ κ' : Nat → Nat} {d : DV} {v : Value} (k : Nat) (h : DRel w S κ d v) (hκ : ∀ j, j ≠ k → κ' j = κ j) : DRel w S κ' (d.purge k) v := by
  unfold DV.purge
  cases hr : d.refs k with
  | true => exact .undef _
  | false => exact h.rekey k hκ hr

/-- An object, in its block. -/
structure ObRel (w : World) (S : Nat → Prop) (κ : Nat → Nat) (k : Nat) (ob : Ob) : Prop where
  wf : ob.rows.wf ob.sz
  there : ∃ cur e, w.heap[κ k]? = some (.cells cur e (0, 0)) ∧ ob.rows.len * ob.sz ≤ cur.size ∧
    ∀ i j d, ob.rows.at i j = some d → ∃ v, cur[i * ob.sz + j]? = some v ∧ v.oneCell' = true ∧ DRel w S κ d v

def owned (st : St) (κ : Nat → Nat) (b : Nat) : Prop := ∃ k ob, lk st.H k = some ob ∧ ob.ro = false ∧ κ k = b
def Fx.S (x : Fx) (st : St) (κ : Nat → Nat) (b : Nat) : Prop := x.S0 b ∨ owned st κ b

structure Sat (x : Fx) (st : St) (κ : Nat → Nat) (a : Act) (w : World) : Prop where
  ds : a.defers = x.ds
  nt : a.tmps.size = st.nt
  T : ∀ i d, lk st.T i = some d → DRel w (x.S st κ) κ d (a.tmps.getD i undef)
  H : ∀ k ob, lk st.H k = some ob → ObRel w (x.S st κ) κ k ob
  inj : ∀ k k' ob ob', lk st.H k = some ob → lk st.H k' = some ob' → κ k = κ k' → k = k'
  mine : ∀ k ob, lk st.H k = some ob → (x.w0.heap.size ≤ κ k ∨ x.X (κ k)) ∧ ¬ x.S0 (κ k)
  fr : Fr x.X x.w0 w
  s0 : ∀ b, x.S0 b → b < x.w0.heap.size
  pin : ∀ k b, x.pin k = some b → κ k = b ∧ st.nt ≤ k

theorem Sat.get {x : Fx} {st : St} {κ : Nat → Nat} {a : Act} {w : World} (h : Sat x st κ a w) (i : Nat) : DRel w (x.S st κ) κ (st.get i) (a.tmps.getD i undef) := by
  unfold St.get
  cases hl : lk st.T i with
  | none => exact .undef _
  | some d => exact h.T i d hl

theorem lk_cons {α : Type} (k : Nat) (v : α) (r : List (Nat × α)) (i : Nat) : lk ((k, v) :: r) i = if k = i then some v else lk r i := rfl

theorem getD_put (a : Act) (i j : Nat) (v : Value) (hi : i < a.tmps.size) : (a.put (some i) v).tmps.getD j undef = if i = j then v else a.tmps.getD j undef := by
  simp only [Act.put]
  by_cases h : i = j
  · subst h
    simp [Array.getD, hi]
  · by_cases hj : j < a.tmps.size <;> simp [Array.getD, h, hj]

theorem put_size (a : Act) (d : Option Nat) (v : Value) : (a.put d v).tmps.size = a.tmps.size := by
  cases d <;> simp [Act.put]
theorem put_defers (a : Act) (d : Option Nat) (v : Value) : (a.put d v).defers = a.defers := by
  cases d <;> rfl

/-- A slot gets a value; memory stays. -/
theorem Sat.set {x : Fx} {st : St} {κ : Nat → Nat} {a : Act} {w : World} (h : Sat x st κ a w) (i : Nat) (hi : i < st.nt) (d : DV) (v : Value) (hd : DRel w (x.S st κ) κ d v) :
    Sat x (st.set i d) κ (a.put (some i) v) w where
  ds := by rw [put_defers]; exact h.ds
  nt := by rw [put_size]; exact h.nt
  T := by
    intro j d' hj
    rw [getD_put _ _ _ _ (by rw [h.nt]; exact hi)]
    simp only [St.set, lk_cons] at hj
    split at hj
    · rename_i e; rw [if_pos e]; cases hj; exact hd
    · rename_i e; rw [if_neg e]; exact h.T j d' hj
  H := h.H
  inj := h.inj
  mine := h.mine
  fr := h.fr
  s0 := h.s0
  pin := h.pin

/-- The world moves on by steps that leave all that the state speaks of. -/
theorem Sat.world {x : Fx} {st : St} {κ : Nat → Nat} {a : Act} {w w' : World} (h : Sat x st κ a w) (hf : Fr (fun _ => False) w w') : Sat x st κ a w' where
  ds := h.ds
  nt := h.nt
  T := fun i d hd => (h.T i d hd).mono (hf.keep (fun _ _ h => h.elim)) (fun _ _ h => h)
  H := fun k ob hk => by
    obtain ⟨wf, cur, e, hb, hs, hc⟩ := h.H k ob hk
    refine ⟨wf, cur, e, ?_, hs, fun i j d hd => ?_⟩
    · rw [hf.block _ (getElem?_lt hb) (fun h => h)]; exact hb
    · obtain ⟨v, h1, h2, h3⟩ := hc i j d hd
      exact ⟨v, h1, h2, h3.mono (hf.keep (fun _ _ h => h.elim)) (fun _ _ h => h)⟩
  inj := h.inj
  mine := h.mine
  fr := h.fr.trans' hf (fun _ _ h => h.elim)
  s0 := h.s0
  pin := h.pin

theorem lk_purgeT (k : Nat) : ∀ (T : List (Nat × DV)) (i : Nat), lk (purgeT k T) i = (lk T i).map (DV.purge k)
  | [], i => rfl
  | (j, d) :: r, i => by
    simp only [purgeT, lk_cons]
    split
    · rfl
    · exact lk_purgeT k r i

theorem lk_purgeH (k : Nat) : ∀ (H : List (Nat × Ob)) (i : Nat), lk (purgeH k H) i = if i = k then none else (lk H i).map fun ob => { ob with rows := ob.rows.purge k }
  | [], i => by simp [purgeH, lk]
  | (j, ob) :: r, i => by
    simp only [purgeH]
    split
    · rename_i e
      rw [lk_purgeH k r i, lk_cons]
      by_cases hi : i = k
      · simp [hi]
      · rw [if_neg hi, if_neg hi, if_neg (by rw [e]; exact Ne.symm hi)]
    · rename_i e
      simp only [lk_cons]
      by_cases hj : j = i
      · subst hj; rw [if_pos rfl, if_pos rfl, if_neg e]; rfl
      · rw [if_neg hj, if_neg hj]; exact lk_purgeH k r i

theorem rowAt_map {α β : Type} (f : α → β) (rows : List (List α)) (i j : Nat) : rowAt (rows.map (·.map f)) i j = (rowAt rows i j).map f := by
  unfold rowAt
  cases h : rows[i]? <;> simp [h]

theorem Rows.at_purge (r : Rows) (k i j : Nat) (d : DV) (h : (r.purge k).at i j = some d) : ∃ d', r.at i j = some d' ∧ (d = d'.purge k) := by
  cases r with
  | p r =>
    simp only [Rows.purge, Rows.at] at h ⊢
    refine ⟨d, h, ?_⟩
    cases hr : rowAt r i j with
    | none => simp [hr] at h
    | some v => simp only [hr, Option.map_some, Option.some.injEq] at h; rw [← h]; rfl
  | m r =>
    simp only [Rows.purge, Rows.at, rowAt_map] at h ⊢
    cases hr : rowAt r i j with
    | none => simp [hr] at h
    | some v => simp only [hr, Option.map_some, Option.some.injEq] at h; exact ⟨v, rfl, h.symm⟩

theorem Rows.len_purge (r : Rows) (k : Nat) : (r.purge k).len = r.len := by cases r <;> simp [Rows.purge, Rows.len]
theorem Rows.wf_purge {r : Rows} {sz : Nat} (k : Nat) (h : r.wf sz) : (r.purge k).wf sz := by
  cases r with
  | p r => exact h
  | m r =>
    intro x hx
    simp only [List.mem_map] at hx
    obtain ⟨y, hy, rfl⟩ := hx
    simpa using h y hy

def upd (κ : Nat → Nat) (k b : Nat) : Nat → Nat := fun j => if j = k then b else κ j
theorem upd_same (κ : Nat → Nat) (k b : Nat) : upd κ k b k = b := by simp [upd]
theorem upd_ne (κ : Nat → Nat) (k b j : Nat) (h : j ≠ k) : upd κ k b j = κ j := by simp [upd, h]

/-- A new object under key k, in a block of its own, with a slot that refers to it. -/
theorem Sat.newTo {x : Fx} {st : St} {κ : Nat → Nat} {a : Act} {w w' : World} (h : Sat x st κ a w) (k : Nat) (hk : k < st.nt) (ob : Ob) (d : DV) (v : Value) (b : Nat)
    (hf : Fr (fun _ => False) w w') (hb : w.heap.size ≤ b)
    (hob : ∀ S, (∀ c, S c → x.S st κ c ∨ c = b) → S b ∨ ob.ro = true → ObRel w' S (upd κ k b) k ob)
    (hd : ∀ S, (∀ c, S c → x.S st κ c ∨ c = b) → S b ∨ ob.ro = true → DRel w' S (upd κ k b) d v) :
    Sat x (st.new k ob d) (upd κ k b) (a.put (some k) v) w' := by
  have hlk : ∀ j, lk (st.new k ob d).H j = if k = j then some ob else (lk st.H j).map fun ob => { ob with rows := ob.rows.purge k } := by
    intro j
    simp only [St.new, lk_cons]
    by_cases e : k = j
    · rw [if_pos e, if_pos e]
    · rw [if_neg e, if_neg e, lk_purgeH, if_neg (Ne.symm e)]
  have hlt : ∀ j ob', lk st.H j = some ob' → κ j < w.heap.size := by
    intro j ob' hj
    obtain ⟨_, cur, e, hb', _⟩ := h.H j ob' hj
    exact getElem?_lt hb'
  have hS' : ∀ c, x.S (st.new k ob d) (upd κ k b) c → x.S st κ c ∨ c = b := by
    intro c hs
    rcases hs with hs | ⟨j, ob', hj, hro, he⟩
    · exact .inl (.inl hs)
    · rw [hlk] at hj
      by_cases e : k = j
      · subst e; rw [upd_same] at he; exact .inr he.symm
      · rw [if_neg e] at hj
        rw [upd_ne _ _ _ _ (Ne.symm e)] at he
        cases hl : lk st.H j with
        | none => simp [hl] at hj
        | some o =>
          simp only [hl, Option.map_some, Option.some.injEq] at hj
          exact .inl (.inr ⟨j, o, hl, by rw [← hj] at hro; exact hro, he⟩)
  have hS : ∀ c, c < w.heap.size → x.S (st.new k ob d) (upd κ k b) c → x.S st κ c := fun c hc hs => by
    rcases hS' c hs with h | h
    · exact h
    · omega
  have hSb : x.S (st.new k ob d) (upd κ k b) b ∨ ob.ro = true := by
    cases hro : ob.ro with
    | true => exact .inr rfl
    | false => exact .inl (.inr ⟨k, ob, by rw [hlk, if_pos rfl], hro, upd_same _ _ _⟩)
  have hmono : ∀ {d' : DV} {v' : Value}, DRel w (x.S st κ) κ d' v' → DRel w' (x.S (st.new k ob d) (upd κ k b)) (upd κ k b) (d'.purge k) v' := by
    intro d' v' hd'
    exact (hd'.mono (hf.keep (fun _ _ h => h.elim)) hS).purge k (fun j hj => upd_ne _ _ _ _ hj)
  refine ⟨?_, ?_, ?_, ?_, ?_, ?_, ?_, h.s0, fun i c hi => ?_⟩
  rotate_left 7
  · obtain ⟨g1, g2⟩ := h.pin i c hi
    exact ⟨by rw [upd_ne _ _ _ _ (by omega)]; exact g1, g2⟩
  · rw [put_defers]; exact h.ds
  · rw [put_size]; exact h.nt
  · intro j d' hj
    rw [getD_put _ _ _ _ (by rw [h.nt]; exact hk)]
    simp only [St.new, lk_cons] at hj
    split at hj
    · rename_i e; rw [if_pos e]; cases hj; exact hd _ hS' hSb
    · rename_i e
      rw [if_neg e]
      rw [lk_purgeT] at hj
      cases hl : lk st.T j with
      | none => simp [hl] at hj
      | some o =>
        simp only [hl, Option.map_some, Option.some.injEq] at hj
        rw [← hj]
        exact hmono (h.T j o hl)
  · intro j ob' hj
    rw [hlk] at hj
    by_cases e : k = j
    · subst e; rw [if_pos rfl] at hj; cases hj; exact hob _ hS' hSb
    · rw [if_neg e] at hj
      cases hl : lk st.H j with
      | none => simp [hl] at hj
      | some o =>
        simp only [hl, Option.map_some, Option.some.injEq] at hj
        subst hj
        obtain ⟨wf, cur, ee, hb', hs, hc⟩ := h.H j o hl
        refine ⟨Rows.wf_purge k wf, cur, ee, ?_, ?_, fun i' j' d' hd' => ?_⟩
        · rw [upd_ne _ _ _ _ (Ne.symm e), hf.block _ (getElem?_lt hb') (fun h => h)]; exact hb'
        · rw [Rows.len_purge]; exact hs
        · obtain ⟨d0, h0, rfl⟩ := Rows.at_purge _ _ _ _ _ hd'
          obtain ⟨v', h1, h2, h3⟩ := hc _ _ _ h0
          exact ⟨v', h1, h2, hmono h3⟩
  · intro j j' ob1 ob2 h1 h2 he
    rw [hlk] at h1 h2
    by_cases e : k = j
    · by_cases e' : k = j'
      · exact e.symm.trans e'
      · subst e
        rw [if_neg e'] at h2
        cases hl : lk st.H j' with
        | none => simp [hl] at h2
        | some o => rw [upd_same, upd_ne _ _ _ _ (Ne.symm e')] at he; have := hlt j' o hl; omega
    · rw [if_neg e] at h1
      cases hl : lk st.H j with
      | none => simp [hl] at h1
      | some o =>
        by_cases e' : k = j'
        · subst e'; rw [upd_same, upd_ne _ _ _ _ (Ne.symm e)] at he; have := hlt j o hl; omega
        · rw [if_neg e'] at h2
          cases hl' : lk st.H j' with
          | none => simp [hl'] at h2
          | some o' =>
            rw [upd_ne _ _ _ _ (Ne.symm e), upd_ne _ _ _ _ (Ne.symm e')] at he
            exact h.inj j j' o o' hl hl' he
  · intro j ob' hj
    rw [hlk] at hj
    by_cases e : k = j
    · subst e
      rw [upd_same]
      exact ⟨.inl (Nat.le_trans h.fr.size hb), fun hs => by have := h.s0 _ hs; have := h.fr.size; omega⟩
    · rw [if_neg e] at hj
      cases hl : lk st.H j with
      | none => simp [hl] at hj
      | some o => rw [upd_ne _ _ _ _ (Ne.symm e)]; exact h.mine j o hl
  · exact h.fr.trans' hf (fun _ _ h => h.elim)

theorem Sat.new {x : Fx} {st : St} {κ : Nat → Nat} {a : Act} {w w' : World} (h : Sat x st κ a w) (k : Nat) (hk : k < st.nt) (ob : Ob) (d : DV) (v : Value) (b : Nat)
    (hf : Fr (fun _ => False) w w') (hb : w.heap.size ≤ b)
    (hob : ∀ S, (∀ c, c < w.heap.size → S c → x.S st κ c) → S b ∨ ob.ro = true → ObRel w' S (upd κ k b) k ob)
    (hd : ∀ S, (∀ c, c < w.heap.size → S c → x.S st κ c) → S b ∨ ob.ro = true → DRel w' S (upd κ k b) d v) :
    Sat x (st.new k ob d) (upd κ k b) (a.put (some k) v) w' :=
  have g : ∀ S : Nat → Prop, (∀ c, S c → x.S st κ c ∨ c = b) → ∀ c, c < w.heap.size → S c → x.S st κ c := fun S hS c hc hs => by
    rcases hS c hs with h | h
    · exact h
    · omega
  h.newTo k hk ob d v b hf hb (fun S hS => hob S (g S hS)) (fun S hS => hd S (g S hS))

theorem Sat.ownedBlock {x : Fx} {st : St} {κ : Nat → Nat} {k : Nat} {ob0 : Ob} (hk : lk st.H k = some ob0) (hro : ob0.ro = false) : x.S st κ (κ k) := .inr ⟨k, ob0, hk, hro, rfl⟩

/-- The object k is consumed; a new one under key j lies in its block, which alone has turned. -/
theorem Sat.moveTo {x : Fx} {st : St} {κ : Nat → Nat} {a : Act} {w w' : World} (h : Sat x st κ a w) (k : Nat) (ob0 : Ob) (hk0 : lk st.H k = some ob0) (hro : ob0.ro = false)
    (b : Nat) (hb : b = κ k ∨ w.heap.size ≤ b) (j : Nat) (hj : j < st.nt) (ob : Ob) (d : DV) (v : Value) (hf : Fr (fun b => b = κ k) w w')
    (hob : ∀ S, (∀ c, S c → (x.S st κ c ∧ c ≠ κ k) ∨ c = b) → ObRel w' S (upd κ j b) j ob)
    (hd : ∀ S, (∀ c, S c → (x.S st κ c ∧ c ≠ κ k) ∨ c = b) → DRel w' S (upd κ j b) d v) :
    Sat x ((st.drop k).new j ob d) (upd κ j b) (a.put (some j) v) w' := by
  have hlk : ∀ i, lk ((st.drop k).new j ob d).H i = if j = i then some ob else if i = k then none else (lk st.H i).map fun ob => { ob with rows := (ob.rows.purge k).purge j } := by
    intro i
    simp only [St.new, St.drop, lk_cons]
    by_cases e : j = i
    · rw [if_pos e, if_pos e]
    · rw [if_neg e, if_neg e, lk_purgeH, if_neg (Ne.symm e), lk_purgeH]
      split
      · rfl
      · cases lk st.H i <;> rfl
  have hold : ∀ {i : Nat} {ob' : Ob}, j ≠ i → lk ((st.drop k).new j ob d).H i = some ob' → ∃ o, lk st.H i = some o ∧ i ≠ k ∧ ob' = { o with rows := (o.rows.purge k).purge j } := by
    intro i ob' e hi
    rw [hlk, if_neg e] at hi
    by_cases hik : i = k
    · rw [if_pos hik] at hi; cases hi
    · rw [if_neg hik] at hi
      cases hl : lk st.H i with
      | none => simp [hl] at hi
      | some o => simp only [hl, Option.map_some, Option.some.injEq] at hi; exact ⟨o, rfl, hik, hi.symm⟩
  have hlt : ∀ j ob', lk st.H j = some ob' → κ j < w.heap.size := by
    intro j ob' hj
    obtain ⟨_, cur, e, hb', _⟩ := h.H j ob' hj
    exact getElem?_lt hb'
  have hS' : ∀ c, x.S ((st.drop k).new j ob d) (upd κ j b) c → (x.S st κ c ∧ c ≠ κ k) ∨ c = b := by
    intro c hs
    rcases hs with hs | ⟨i, ob', hi, hro', he⟩
    · exact .inl ⟨.inl hs, fun e => (h.mine k ob0 hk0).2 (by rw [← e]; exact hs)⟩
    · by_cases e : j = i
      · subst e; rw [upd_same] at he; exact .inr he.symm
      · obtain ⟨o, ho, hik, rfl⟩ := hold e hi
        rw [upd_ne _ _ _ _ (Ne.symm e)] at he
        exact .inl ⟨.inr ⟨i, o, ho, hro', he⟩, fun e' => hik (h.inj _ _ _ _ ho hk0 (he.trans e'))⟩
  have hS : ∀ c, c < w.heap.size → x.S ((st.drop k).new j ob d) (upd κ j b) c → x.S st κ c := by
    intro c hc hs
    rcases hS' c hs with hs | hs
    · exact hs.1
    · rcases hb with hb | hb
      · rw [hs, hb]; exact Sat.ownedBlock hk0 hro
      · omega
  have hmono : ∀ {d' : DV} {v' : Value}, DRel w (x.S st κ) κ d' v' → DRel w' (x.S ((st.drop k).new j ob d) (upd κ j b)) (upd κ j b) ((d'.purge k).purge j) v' := by
    intro d' v' hd'
    have h1 := hd'.mono (hf.keep (S := x.S st κ) (fun b _ e => by rw [e]; exact Sat.ownedBlock hk0 hro)) hS
    exact (h1.purge k (fun _ _ => rfl)).purge j (fun i hi => upd_ne _ _ _ _ hi)
  refine ⟨?_, ?_, ?_, ?_, ?_, ?_, ?_, h.s0, fun i c hi => ?_⟩
  rotate_left 7
  · obtain ⟨g1, g2⟩ := h.pin i c hi
    have g2 : st.nt ≤ i := g2
    exact ⟨by rw [upd_ne _ _ _ _ (by omega)]; exact g1, g2⟩
  · rw [put_defers]; exact h.ds
  · rw [put_size]; exact h.nt
  · intro i d' hi
    rw [getD_put _ _ _ _ (by rw [h.nt]; exact hj)]
    simp only [St.new, St.drop, lk_cons] at hi
    split at hi
    · rename_i e; rw [if_pos e]; cases hi; exact hd _ hS'
    · rename_i e
      rw [if_neg e]
      rw [lk_purgeT, lk_purgeT] at hi
      cases hl : lk st.T i with
      | none => simp [hl] at hi
      | some o =>
        simp only [hl, Option.map_some, Option.some.injEq] at hi
        rw [← hi]
        exact hmono (h.T i o hl)
  · intro i ob' hi
    by_cases e : j = i
    · subst e; rw [hlk, if_pos rfl] at hi; cases hi; exact hob _ hS'
    · obtain ⟨o, ho, hik, rfl⟩ := hold e hi
      obtain ⟨wf, cur, ee, hb', hs, hc⟩ := h.H i o ho
      refine ⟨Rows.wf_purge j (Rows.wf_purge k wf), cur, ee, ?_, ?_, fun i' j' d' hd' => ?_⟩
      · rw [upd_ne _ _ _ _ (Ne.symm e), hf.block _ (getElem?_lt hb') (fun he => hik (h.inj _ _ _ _ ho hk0 he))]; exact hb'
      · rw [Rows.len_purge, Rows.len_purge]; exact hs
      · obtain ⟨d0, h0, rfl⟩ := Rows.at_purge _ _ _ _ _ hd'
        obtain ⟨d1, h1, rfl⟩ := Rows.at_purge _ _ _ _ _ h0
        obtain ⟨v', g1, g2, g3⟩ := hc _ _ _ h1
        exact ⟨v', g1, g2, hmono g3⟩
  · intro i i' ob1 ob2 h1 h2 he
    by_cases e : j = i
    · by_cases e' : j = i'
      · exact e.symm.trans e'
      · subst e
        obtain ⟨o, ho, hik, _⟩ := hold e' h2
        rw [upd_same, upd_ne _ _ _ _ (Ne.symm e')] at he
        rcases hb with hb | hb
        · exact absurd (h.inj _ _ _ _ ho hk0 (he.symm.trans hb)) hik
        · have := hlt _ _ ho; omega
    · obtain ⟨o, ho, hik, _⟩ := hold e h1
      by_cases e' : j = i'
      · subst e'
        rw [upd_same, upd_ne _ _ _ _ (Ne.symm e)] at he
        rcases hb with hb | hb
        · exact absurd (h.inj _ _ _ _ ho hk0 (he.trans hb)) hik
        · have := hlt _ _ ho; omega
      · obtain ⟨o', ho', _, _⟩ := hold e' h2
        rw [upd_ne _ _ _ _ (Ne.symm e), upd_ne _ _ _ _ (Ne.symm e')] at he
        exact h.inj _ _ _ _ ho ho' he
  · intro i ob' hi
    by_cases e : j = i
    · subst e; rw [upd_same]
      rcases hb with hb | hb
      · rw [hb]; exact h.mine k ob0 hk0
      · exact ⟨.inl (Nat.le_trans h.fr.size hb), fun hs => by have := h.s0 _ hs; have := h.fr.size; omega⟩
    · obtain ⟨o, ho, _, _⟩ := hold e hi
      rw [upd_ne _ _ _ _ (Ne.symm e)]; exact h.mine i o ho
  · exact h.fr.trans' hf (fun i hi e => by
      rcases (h.mine k ob0 hk0).1 with hm | hm
      · omega
      · rw [e]; exact hm)

theorem Sat.move {x : Fx} {st : St} {κ : Nat → Nat} {a : Act} {w w' : World} (h : Sat x st κ a w) (k : Nat) (ob0 : Ob) (hk0 : lk st.H k = some ob0) (hro : ob0.ro = false)
    (j : Nat) (hj : j < st.nt) (ob : Ob) (d : DV) (v : Value) (hf : Fr (fun b => b = κ k) w w')
    (hob : ∀ S, (∀ c, c < w.heap.size → S c → x.S st κ c) → ObRel w' S (upd κ j (κ k)) j ob)
    (hd : ∀ S, (∀ c, c < w.heap.size → S c → x.S st κ c) → DRel w' S (upd κ j (κ k)) d v) :
    Sat x ((st.drop k).new j ob d) (upd κ j (κ k)) (a.put (some j) v) w' := 
  have g : ∀ S : Nat → Prop, (∀ c, S c → (x.S st κ c ∧ c ≠ κ k) ∨ c = κ k) → ∀ c, c < w.heap.size → S c → x.S st κ c := fun S hS c hc hs => by
    rcases hS c hs with h | h
    · exact h.1
    · rw [h]; exact Sat.ownedBlock hk0 hro
  h.moveTo k ob0 hk0 hro (κ k) (.inl rfl) j hj ob d v hf (fun S hS => hob S (g S hS)) (fun S hS => hd S (g S hS))

/-- The object k turns in place. -/
theorem Sat.updOb {x : Fx} {st : St} {κ : Nat → Nat} {a : Act} {w w' : World} (h : Sat x st κ a w) (k : Nat) (ob0 : Ob) (hk0 : lk st.H k = some ob0) (hro : ob0.ro = false)
    (ob : Ob) (hf : Fr (fun b => b = κ k) w w') (hrn : ob.ro = false) (hob : ObRel w' (x.S st κ) κ k ob) : Sat x (st.upd k ob) κ a w' := by
  have hlk : ∀ i, lk (st.upd k ob).H i = if k = i then some ob else lk st.H i := fun i => by simp only [St.upd, lk_cons]
  have hS : ∀ c, x.S (st.upd k ob) κ c ↔ x.S st κ c := by
    intro c
    constructor
    · rintro (hs | ⟨i, ob', hi, hro', he⟩)
      · exact .inl hs
      · rw [hlk] at hi
        by_cases e : k = i
        · subst e; rw [← he]; exact Sat.ownedBlock hk0 hro
        · rw [if_neg e] at hi; exact .inr ⟨i, ob', hi, hro', he⟩
    · rintro (hs | ⟨i, ob', hi, hro', he⟩)
      · exact .inl hs
      · by_cases e : k = i
        · subst e; exact .inr ⟨k, ob, by rw [hlk, if_pos rfl], hrn, he⟩
        · exact .inr ⟨i, ob', by rw [hlk, if_neg e]; exact hi, hro', he⟩
  have hSe : x.S (st.upd k ob) κ = x.S st κ := funext fun c => propext (hS c)
  have hkeep : Keep (x.S st κ) w w' := hf.keep (fun b _ e => by rw [e]; exact Sat.ownedBlock hk0 hro)
  refine ⟨h.ds, h.nt, ?_, ?_, ?_, ?_, ?_, h.s0, h.pin⟩
  · intro i d hi
    rw [hSe]
    exact (h.T i d hi).mono hkeep (fun _ _ h => h)
  · intro i ob' hi
    rw [hSe]
    rw [hlk] at hi
    by_cases e : k = i
    · subst e; rw [if_pos rfl] at hi; cases hi; exact hob
    · rw [if_neg e] at hi
      obtain ⟨wf, cur, ee, hb', hs, hc⟩ := h.H i ob' hi
      refine ⟨wf, cur, ee, ?_, hs, fun i' j' d' hd' => ?_⟩
      · rw [hf.block _ (getElem?_lt hb') (fun he => e (h.inj _ _ _ _ hi hk0 he).symm)]; exact hb'
      · obtain ⟨v', g1, g2, g3⟩ := hc _ _ _ hd'
        exact ⟨v', g1, g2, g3.mono hkeep (fun _ _ h => h)⟩
  · intro i i' o1 o2 h1 h2 he
    rw [hlk] at h1 h2
    have g1 : ∃ o, lk st.H i = some o := by
      by_cases e : k = i
      · subst e; exact ⟨_, hk0⟩
      · rw [if_neg e] at h1; exact ⟨_, h1⟩
    have g2 : ∃ o, lk st.H i' = some o := by
      by_cases e : k = i'
      · subst e; exact ⟨_, hk0⟩
      · rw [if_neg e] at h2; exact ⟨_, h2⟩
    obtain ⟨o, ho⟩ := g1
    obtain ⟨o', ho'⟩ := g2
    exact h.inj _ _ _ _ ho ho' he
  · intro i ob' hi
    rw [hlk] at hi
    by_cases e : k = i
    · subst e; exact h.mine _ _ hk0
    · rw [if_neg e] at hi; exact h.mine _ _ hi
  · exact h.fr.trans' hf (fun i hi e => by
      rcases (h.mine k ob0 hk0).1 with hm | hm
      · omega
      · rw [e]; exact hm)

/-- What is forgotten. -/
def St.Sub (st st' : St) : Prop := st'.nt = st.nt ∧ (∀ i d, lk st'.T i = some d → lk st.T i = some d ∨ d = .undef) ∧ (∀ k ob, lk st'.H k = some ob → lk st.H k = some ob)

theorem Sat.sub {x : Fx} {st st' : St} {κ : Nat → Nat} {a : Act} {w : World} (h : Sat x st κ a w) (hs : st.Sub st') : Sat x st' κ a w := by
  obtain ⟨hn, hT, hH⟩ := hs
  have hS : ∀ c, c < w.heap.size → x.S st' κ c → x.S st κ c := by
    rintro c _ (hs | ⟨i, ob', hi, hro', he⟩)
    · exact .inl hs
    · exact .inr ⟨i, ob', hH _ _ hi, hro', he⟩
  refine ⟨h.ds, h.nt.trans hn.symm, ?_, ?_, ?_, ?_, h.fr, h.s0, fun k b hk => ⟨(h.pin k b hk).1, by rw [hn]; exact (h.pin k b hk).2⟩⟩
  · intro i d hi
    rcases hT i d hi with h1 | rfl
    · exact (h.T i d h1).mono (Keep.refl _ _) hS
    · exact .undef _
  · intro k ob hk
    obtain ⟨wf, cur, ee, hb', hs, hc⟩ := h.H k ob (hH _ _ hk)
    refine ⟨wf, cur, ee, hb', hs, fun i' j' d' hd' => ?_⟩
    obtain ⟨v', g1, g2, g3⟩ := hc _ _ _ hd'
    exact ⟨v', g1, g2, g3.mono (Keep.refl _ _) hS⟩
  · exact fun i i' o1 o2 h1 h2 he => h.inj _ _ _ _ (hH _ _ h1) (hH _ _ h2) he
  · exact fun i ob hi => h.mine _ _ (hH _ _ hi)

end Go.Dl
