/- Symbolic values for walks: pure values, their relation to the machine's values in a world, and how it is kept. -/
import Derived.Below
set_option linter.unusedVariables false
set_option linter.unusedSimpArgs false
namespace Go.Dl

inductive PV where
  | int (k : IntKind) (n : Int)
  | bool (b : Bool)
  | str (s : List UInt8)
  | nilptr
  | nilfn
  | niface
  | sl (nil : Option Bool) (sz : Nat) (rows spare : List (List PV))
  | pp (sz : Nat) (rows : List (List PV)) (i off : Nat)
  | agg (cells : List PV)
  | tup (vs : List PV)
  | fn (f : Fn) (first captured : List PV)
  deriving Inhabited

/-- cell c of row i lies at off + i * sz + c -/
def rowAt {α : Type} (rows : List (List α)) (i j : Nat) : Option α := (rows[i]?).bind (·[j]?)

inductive PRel (w : World) (S : Nat → Prop) : PV → Value → Prop
  | int (k : IntKind) (n : Int) : PRel w S (.int k n) (.int k n)
  | bool (b : Bool) : PRel w S (.bool b) (.bool b)
  | str (s : List UInt8) : PRel w S (.str s) (.string ⟨s.toArray⟩)
  | nilptr : PRel w S .nilptr (.pointer none)
  | nilfn : PRel w S .nilfn .nilFunc
  | niface : PRel w S .niface .nilIface
  | slnil (o : Option Bool) (sz : Nat) (ho : o ≠ some false) : PRel w S (.sl o sz [] []) (.slice none 0 0)
  | sl (o : Option Bool) (ho : o ≠ some true) (sz : Nat) (rows spare : List (List PV)) (b off cap : Nat) (f : Nat → Nat → Value)
      (hS : ¬ S b) (hb : b < w.heap.size) (hsz : ∀ r, r ∈ rows ++ spare → r.length = sz)
      (hcap : rows.length + spare.length ≤ cap) (hmax : cap ≤ maxLen)
      (hcell : ∀ (i j : Nat) (c : PV), rowAt (rows ++ spare) i j = some c → w.cell? ⟨b, off + i * sz + j, none⟩ = some (f i j) ∧ (f i j).oneCell' = true)
      (hrel : ∀ (i j : Nat) (c : PV), rowAt (rows ++ spare) i j = some c → PRel w S c (f i j)) :
      PRel w S (.sl o sz rows spare) (.slice (some ⟨b, off, none⟩) rows.length cap)
  | pp (sz : Nat) (rows : List (List PV)) (n o b off : Nat) (f : Nat → Nat → Value)
      (hS : ¬ S b) (hb : b < w.heap.size) (hsz : ∀ r, r ∈ rows → r.length = sz)
      (hcell : ∀ (i j : Nat) (c : PV), rowAt rows i j = some c → w.cell? ⟨b, off + i * sz + j, none⟩ = some (f i j) ∧ (f i j).oneCell' = true)
      (hrel : ∀ (i j : Nat) (c : PV), rowAt rows i j = some c → PRel w S c (f i j)) :
      PRel w S (.pp sz rows n o) (.pointer (some ⟨b, off + n * sz + o, none⟩))
  | agg (cs : List PV) (vs : List Value) (hl : cs.length = vs.length) (hrel : ∀ (i : Nat) (c : PV) (v : Value), cs[i]? = some c → vs[i]? = some v → PRel w S c v) :
      PRel w S (.agg cs) (.agg vs.toArray)
  | tup (cs : List PV) (vs : List Value) (hl : cs.length = vs.length) (hrel : ∀ (i : Nat) (c : PV) (v : Value), cs[i]? = some c → vs[i]? = some v → PRel w S c v) :
      PRel w S (.tup cs) (.tuple vs.toArray)
  | fn (g : Fn) (fs cs : List PV) (us vs : List Value) (hl1 : fs.length = us.length) (hl2 : cs.length = vs.length)
      (hrel1 : ∀ (i : Nat) (c : PV) (v : Value), fs[i]? = some c → us[i]? = some v → PRel w S c v) (hrel2 : ∀ (i : Nat) (c : PV) (v : Value), cs[i]? = some c → vs[i]? = some v → PRel w S c v) :
      PRel w S (.fn g fs cs) (.func g us.toArray vs.toArray)

/-- w' is w but for new blocks and for blocks of S. -/
structure Keep (S : Nat → Prop) (w w' : World) : Prop where
  size : w.heap.size ≤ w'.heap.size
  block : ∀ b, b < w.heap.size → ¬ S b → w'.heap[b]? = w.heap[b]?
  shape : ∀ (b : Nat) (cur : Array Value) (e : TypeId) (fr : Nat × Nat), w.heap[b]? = some (.cells cur e fr) → ∃ cur' fr', w'.heap[b]? = some (.cells cur' e fr') ∧ cur'.size = cur.size

theorem Keep.refl (S : Nat → Prop) (w : World) : Keep S w w := ⟨Nat.le_refl _, fun _ _ _ => rfl, fun _ cur _ fr h => ⟨cur, fr, h, rfl⟩⟩
theorem Keep.cell {S : Nat → Prop} {w w' : World} (h : Keep S w w') {b o : Nat} {v : Value} (hS : ¬ S b) (hc : w.cell? ⟨b, o, none⟩ = some v) : w'.cell? ⟨b, o, none⟩ = some v := by
  have hb : b < w.heap.size := World.block_lt_of_cell? w ⟨b, o, none⟩ hc
  rw [← hc]
  exact World.cell?_of_block (h.block b hb hS)

theorem PRel.mono {w w' : World} {S S' : Nat → Prop} {p : PV} {v : Value} (h : PRel w S p v) (hk : Keep S w w') (hS : ∀ b, b < w.heap.size → S' b → S b) : PRel w' S' p v := by
  induction h with
  | int => exact .int _ _
  | bool => exact .bool _
  | str => exact .str _
  | nilptr => exact .nilptr
  | nilfn => exact .nilfn
  | niface => exact .niface
  | slnil o sz ho => exact .slnil _ _ ho
  | sl o ho sz rows spare b off cap f h1 hb hsz hcap hmax hcell _ ih =>
    exact .sl o ho sz rows spare b off cap f (fun h => h1 (hS b hb h)) (Nat.lt_of_lt_of_le hb hk.size) hsz hcap hmax (fun i j c hc => ⟨hk.cell h1 (hcell i j c hc).1, (hcell i j c hc).2⟩) ih
  | pp sz rows n o b off f h1 hb hsz hcell _ ih =>
    exact .pp sz rows n o b off f (fun h => h1 (hS b hb h)) (Nat.lt_of_lt_of_le hb hk.size) hsz (fun i j c hc => ⟨hk.cell h1 (hcell i j c hc).1, (hcell i j c hc).2⟩) ih
  | agg cs vs hl _ ih => exact .agg cs vs hl ih
  | tup cs vs hl _ ih => exact .tup cs vs hl ih
  | fn g fs cs us vs h1 h2 _ _ ih1 ih2 => exact .fn g fs cs us vs h1 h2 ih1 ih2

/-- what is known of a slice's nil and of the room behind it is forgotten -/
def PV.norm0 : PV → PV
  | .sl _ sz rows _ => .sl none sz rows []
  | p => p
def PV.norm1 : PV → PV
  | .sl _ sz rows _ => .sl none sz rows []
  | .agg cs => .agg (cs.map PV.norm0)
  | p => p
def PV.norm : PV → PV
  | .sl _ sz rows _ => .sl none sz rows []
  | .agg cs => .agg (cs.map PV.norm0)
  | .tup vs => .tup (vs.map PV.norm1)
  | p => p

theorem PRel.norm0 {w : World} {S : Nat → Prop} {p : PV} {v : Value} (h : PRel w S p v) : PRel w S p.norm0 v := by
  cases h with
  | slnil o sz ho => exact .slnil _ _ (by simp)
  | sl o ho sz rows spare b off cap f h1 hb hsz hcap hmax hcell hrel =>
    have up : ∀ i j c, rowAt (rows ++ []) i j = some c → rowAt (rows ++ spare) i j = some c := by
      intro i j c hc
      rw [List.append_nil] at hc
      unfold rowAt at hc ⊢
      cases hr : rows[i]? with
      | none => simp [hr] at hc
      | some r => rw [List.getElem?_append_left (List.getElem?_eq_some_iff.1 hr).1, hr]; simpa [hr] using hc
    exact .sl none (by simp) sz rows [] b off cap f h1 hb (fun r hr => hsz r (List.mem_append_left _ (by simpa using hr))) (by simp; omega) hmax (fun i j c hc => hcell i j c (up i j c hc)) (fun i j c hc => hrel i j c (up i j c hc))
  | int => exact .int _ _
  | bool => exact .bool _
  | str => exact .str _
  | nilptr => exact .nilptr
  | nilfn => exact .nilfn
  | niface => exact .niface
  | pp sz rows n o b off f h1 hb hsz hcell hrel => exact .pp sz rows n o b off f h1 hb hsz hcell hrel
  | agg cs vs hl hr => exact .agg cs vs hl hr
  | tup cs vs hl hr => exact .tup cs vs hl hr
  | fn g fs cs us vs h1 h2 h3 h4 => exact .fn g fs cs us vs h1 h2 h3 h4
theorem PRel.norm1 {w : World} {S : Nat → Prop} {p : PV} {v : Value} (h : PRel w S p v) : PRel w S p.norm1 v := by
  cases p with
  | sl => exact h.norm0
  | agg cs =>
    cases h with | agg _ vs hl hr =>
    exact .agg _ vs (by simpa using hl) fun i c v hc hv => by
      simp only [List.getElem?_map, Option.map_eq_some_iff] at hc
      obtain ⟨q, hq, rfl⟩ := hc
      exact (hr i q v hq hv).norm0
  | _ => exact h
theorem PRel.norm {w : World} {S : Nat → Prop} {p : PV} {v : Value} (h : PRel w S p v) : PRel w S p.norm v := by
  cases p with
  | sl => exact h.norm0
  | agg cs => exact h.norm1
  | tup cs =>
    cases h with | tup _ vs hl hr =>
    exact .tup _ vs (by simpa using hl) fun i c v hc hv => by
      simp only [List.getElem?_map, Option.map_eq_some_iff] at hc
      obtain ⟨q, hq, rfl⟩ := hc
      exact (hr i q v hq hv).norm1
  | _ => exact h

inductive DV where
  | undef
  | p (v : PV)
  | own (k sz start len room : Nat)
  | ptr (k sz i off : Nat)
  | agg (cells : List DV)
  | tup (vs : List DV)
  | fn (f : Fn) (first captured : List DV)
  deriving Inhabited

inductive Rows where
  | p (rows : List (List PV))
  | m (rows : List (List DV))
  deriving Inhabited

structure Ob where
  ro : Bool
  sz : Nat
  rows : Rows
  deriving Inhabited

def Rows.len : Rows → Nat
  | .p r => r.length
  | .m r => r.length
def Rows.wf (sz : Nat) : Rows → Prop
  | .p r => ∀ x, x ∈ r → x.length = sz
  | .m r => ∀ x, x ∈ r → x.length = sz
def Rows.at (r : Rows) (i j : Nat) : Option DV :=
  match r with
  | .p r => (rowAt r i j).map .p
  | .m r => rowAt r i j

inductive DRel (w : World) (S : Nat → Prop) (κ : Nat → Nat) : DV → Value → Prop
  | undef (v : Value) : DRel w S κ .undef v
  | p (v : PV) (x : Value) (h : PRel w S v x) : DRel w S κ (.p v) x
  | own (k sz start len room cap o : Nat) (hlen : len ≤ room) (hroom : room ≤ cap) (hmax : cap ≤ maxLen) (ho : cap = 0 ∨ o = start * sz)
      (cur : Array Value) (e : TypeId) (fr : Nat × Nat) (hb : w.heap[κ k]? = some (.cells cur e fr))
      (hfit : o + cap * sz ≤ cur.size ∨ cap = 0) : DRel w S κ (.own k sz start len room) (.slice (some ⟨κ k, o, none⟩) len cap)
  | ownnil (k sz : Nat) : DRel w S κ (.own k sz 0 0 0) (.slice none 0 0)
  | ptr (k sz i off : Nat) : DRel w S κ (.ptr k sz i off) (.pointer (some ⟨κ k, i * sz + off, none⟩))
  | agg (cs : List DV) (vs : List Value) (hl : cs.length = vs.length) (hrel : ∀ (i : Nat) (c : DV) (v : Value), cs[i]? = some c → vs[i]? = some v → DRel w S κ c v) :
      DRel w S κ (.agg cs) (.agg vs.toArray)
  | tup (cs : List DV) (vs : List Value) (hl : cs.length = vs.length) (hrel : ∀ (i : Nat) (c : DV) (v : Value), cs[i]? = some c → vs[i]? = some v → DRel w S κ c v) :
      DRel w S κ (.tup cs) (.tuple vs.toArray)
  | fn (g : Fn) (fs cs : List DV) (us vs : List Value) (hl1 : fs.length = us.length) (hl2 : cs.length = vs.length)
      (hrel1 : ∀ (i : Nat) (c : DV) (v : Value), fs[i]? = some c → us[i]? = some v → DRel w S κ c v) (hrel2 : ∀ (i : Nat) (c : DV) (v : Value), cs[i]? = some c → vs[i]? = some v → DRel w S κ c v) :
      DRel w S κ (.fn g fs cs) (.func g us.toArray vs.toArray)

end Go.Dl
