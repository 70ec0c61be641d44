/- Symbolic values for walks: pure values, their relation to the machine's values in a world, and how it is kept. Symbolic states; operations with their types resolved; what an operation does to a symbolic state. What a symbolic state says of the machine's slots and memory; how that is kept. From the machine's code to code with resolved types; the operations with a value alone do what is said of them. -/
import Derived.Below
import Derived.Laws.StructEq
import Derived.Laws.Tables
import Derived.Deep.MidRow
import Derived.Deep.AppendSrc
import Derived.CallsIn
set_option linter.unusedVariables false
set_option linter.unusedSimpArgs false
namespace Go.Dl

inductive PV where
  | int (k : IntKind) (n : Int)
  | bool (b : Bool)
  | str (s : List UInt8)
  | nilptr
  | nilfn
  | niface
  | sl (nil : Option Bool) (sz : Nat) (rows spare : List (List PV))
  | pp (sz : Nat) (rows : List (List PV)) (i off : Nat)
  | agg (cells : List PV)
  | tup (vs : List PV)
  | fn (f : Fn) (first captured : List PV)
  deriving Inhabited

/-- cell c of row i lies at off + i * sz + c -/
def rowAt {α : Type} (rows : List (List α)) (i j : Nat) : Option α := (rows[i]?).bind (·[j]?)

inductive PRel (w : World) (S : Nat → Prop) : PV → Value → Prop
  | int (k : IntKind) (n : Int) : PRel w S (.int k n) (.int k n)
  | bool (b : Bool) : PRel w S (.bool b) (.bool b)
  | str (s : List UInt8) : PRel w S (.str s) (.string ⟨s.toArray⟩)
  | nilptr : PRel w S .nilptr (.pointer none)
  | nilfn : PRel w S .nilfn .nilFunc
  | niface : PRel w S .niface .nilIface
  | slnil (o : Option Bool) (sz : Nat) (ho : o ≠ some false) : PRel w S (.sl o sz [] []) (.slice none 0 0)
  | slz (o : Option Bool) (sz : Nat) (ho : o ≠ some true) (a : Addr) : PRel w S (.sl o sz [] []) (.slice (some a) 0 0)
  | sl (o : Option Bool) (ho : o ≠ some true) (sz : Nat) (rows spare : List (List PV)) (b off cap : Nat) (f : Nat → Nat → Value)
      (hS : ¬ S b) (hb : b < w.heap.size) (hsz : ∀ r, r ∈ rows ++ spare → r.length = sz)
      (hcap : rows.length + spare.length ≤ cap) (hmax : cap ≤ maxLen)
      (hcell : ∀ (i j : Nat) (c : PV), rowAt (rows ++ spare) i j = some c → w.cell? ⟨b, off + i * sz + j, none⟩ = some (f i j) ∧ (f i j).oneCell' = true)
      (hrel : ∀ (i j : Nat) (c : PV), rowAt (rows ++ spare) i j = some c → PRel w S c (f i j)) :
      PRel w S (.sl o sz rows spare) (.slice (some ⟨b, off, none⟩) rows.length cap)
  | pp (sz : Nat) (rows : List (List PV)) (n o b off : Nat) (f : Nat → Nat → Value)
      (hS : ¬ S b) (hb : b < w.heap.size) (hsz : ∀ r, r ∈ rows → r.length = sz)
      (hcell : ∀ (i j : Nat) (c : PV), rowAt rows i j = some c → w.cell? ⟨b, off + i * sz + j, none⟩ = some (f i j) ∧ (f i j).oneCell' = true)
      (hrel : ∀ (i j : Nat) (c : PV), rowAt rows i j = some c → PRel w S c (f i j)) :
      PRel w S (.pp sz rows n o) (.pointer (some ⟨b, off + n * sz + o, none⟩))
  | agg (cs : List PV) (vs : List Value) (hl : cs.length = vs.length) (hrel : ∀ (i : Nat) (c : PV) (v : Value), cs[i]? = some c → vs[i]? = some v → PRel w S c v) :
      PRel w S (.agg cs) (.agg vs.toArray)
  | tup (cs : List PV) (vs : List Value) (hl : cs.length = vs.length) (hrel : ∀ (i : Nat) (c : PV) (v : Value), cs[i]? = some c → vs[i]? = some v → PRel w S c v) :
      PRel w S (.tup cs) (.tuple vs.toArray)
  | fn (g : Fn) (fs cs : List PV) (us vs : List Value) (hl1 : fs.length = us.length) (hl2 : cs.length = vs.length)
      (hrel1 : ∀ (i : Nat) (c : PV) (v : Value), fs[i]? = some c → us[i]? = some v → PRel w S c v) (hrel2 : ∀ (i : Nat) (c : PV) (v : Value), cs[i]? = some c → vs[i]? = some v → PRel w S c v) :
      PRel w S (.fn g fs cs) (.func g us.toArray vs.toArray)

/-- w' is w but for new blocks and for blocks of S. -/
structure Keep (S : Nat → Prop) (w w' : World) : Prop where
  size : w.heap.size ≤ w'.heap.size
  block : ∀ b, b < w.heap.size → ¬ S b → w'.heap[b]? = w.heap[b]?
  shape : ∀ (b : Nat) (cur : Array Value) (e : TypeId) (fr : Nat × Nat), w.heap[b]? = some (.cells cur e fr) → ∃ cur' fr', w'.heap[b]? = some (.cells cur' e fr') ∧ cur'.size = cur.size

theorem Keep.refl (S : Nat → Prop) (w : World) : Keep S w w := ⟨Nat.le_refl _, fun _ _ _ => rfl, fun _ cur _ fr h => ⟨cur, fr, h, rfl⟩⟩
theorem Keep.cell {S : Nat → Prop} {w w' : World} (h : Keep S w w') {b o : Nat} {v : Value} (hS : ¬ S b) (hc : w.cell? ⟨b, o, none⟩ = some v) : w'.cell? ⟨b, o, none⟩ = some v := by
  have hb : b < w.heap.size := World.block_lt_of_cell? w ⟨b, o, none⟩ hc
  rw [← hc]
  exact World.cell?_of_block (h.block b hb hS)

theorem PRel.mono {w w' : World} {S S' : Nat → Prop} {p : PV} {v : Value} (h : PRel w S p v) (hk : Keep S w w') (hS : ∀ b, b < w.heap.size → S' b → S b) : PRel w' S' p v := by
  induction h with
  | int => exact .int _ _
  | bool => exact .bool _
  | str => exact .str _
  | nilptr => exact .nilptr
  | nilfn => exact .nilfn
  | niface => exact .niface
  | slnil o sz ho => exact .slnil _ _ ho
  | slz o sz ho a => exact .slz _ _ ho _
  | sl o ho sz rows spare b off cap f h1 hb hsz hcap hmax hcell _ ih =>
    exact .sl o ho sz rows spare b off cap f (fun h => h1 (hS b hb h)) (Nat.lt_of_lt_of_le hb hk.size) hsz hcap hmax (fun i j c hc => ⟨hk.cell h1 (hcell i j c hc).1, (hcell i j c hc).2⟩) ih
  | pp sz rows n o b off f h1 hb hsz hcell _ ih =>
    exact .pp sz rows n o b off f (fun h => h1 (hS b hb h)) (Nat.lt_of_lt_of_le hb hk.size) hsz (fun i j c hc => ⟨hk.cell h1 (hcell i j c hc).1, (hcell i j c hc).2⟩) ih
  | agg cs vs hl _ ih => exact .agg cs vs hl ih
  | tup cs vs hl _ ih => exact .tup cs vs hl ih
  | fn g fs cs us vs h1 h2 _ _ ih1 ih2 => exact .fn g fs cs us vs h1 h2 ih1 ih2

/-- what is known of a slice's nil and of the room behind it is forgotten -/
def PV.norm0 : PV → PV
  | .sl _ sz rows _ => .sl none sz rows []
  | p => p
def PV.norm1 : PV → PV
  | .sl _ sz rows _ => .sl none sz rows []
  | .agg cs => .agg (cs.map PV.norm0)
  | p => p
def PV.norm : PV → PV
  | .sl _ sz rows _ => .sl none sz rows []
  | .agg cs => .agg (cs.map PV.norm0)
  | .tup vs => .tup (vs.map PV.norm1)
  | p => p

theorem PRel.norm0 {w : World} {S : Nat → Prop} {p : PV} {v : Value} (h : PRel w S p v) : PRel w S p.norm0 v := by
  cases h with
  | slnil o sz ho => exact .slnil _ _ (by simp)
  | slz o sz ho a => exact .slz _ _ (by simp) _
  | sl o ho sz rows spare b off cap f h1 hb hsz hcap hmax hcell hrel =>
    have up : ∀ i j c, rowAt (rows ++ []) i j = some c → rowAt (rows ++ spare) i j = some c := by
      intro i j c hc
      rw [List.append_nil] at hc
      unfold rowAt at hc ⊢
      cases hr : rows[i]? with
      | none => simp [hr] at hc
      | some r => rw [List.getElem?_append_left (List.getElem?_eq_some_iff.1 hr).1, hr]; simpa [hr] using hc
    exact .sl none (by simp) sz rows [] b off cap f h1 hb (fun r hr => hsz r (List.mem_append_left _ (by simpa using hr))) (by simp; omega) hmax (fun i j c hc => hcell i j c (up i j c hc)) (fun i j c hc => hrel i j c (up i j c hc))
  | int => exact .int _ _
  | bool => exact .bool _
  | str => exact .str _
  | nilptr => exact .nilptr
  | nilfn => exact .nilfn
  | niface => exact .niface
  | pp sz rows n o b off f h1 hb hsz hcell hrel => exact .pp sz rows n o b off f h1 hb hsz hcell hrel
  | agg cs vs hl hr => exact .agg cs vs hl hr
  | tup cs vs hl hr => exact .tup cs vs hl hr
  | fn g fs cs us vs h1 h2 h3 h4 => exact .fn g fs cs us vs h1 h2 h3 h4
theorem PRel.norm1 {w : World} {S : Nat → Prop} {p : PV} {v : Value} (h : PRel w S p v) : PRel w S p.norm1 v := by
  cases p with
  | sl => exact h.norm0
  | agg cs =>
    cases h with | agg _ vs hl hr =>
    exact .agg _ vs (by simpa using hl) fun i c v hc hv => by
      simp only [List.getElem?_map, Option.map_eq_some_iff] at hc
      obtain ⟨q, hq, rfl⟩ := hc
      exact (hr i q v hq hv).norm0
  | _ => exact h
theorem PRel.norm {w : World} {S : Nat → Prop} {p : PV} {v : Value} (h : PRel w S p v) : PRel w S p.norm v := by
  cases p with
  | sl => exact h.norm0
  | agg cs => exact h.norm1
  | tup cs =>
    cases h with | tup _ vs hl hr =>
    exact .tup _ vs (by simpa using hl) fun i c v hc hv => by
      simp only [List.getElem?_map, Option.map_eq_some_iff] at hc
      obtain ⟨q, hq, rfl⟩ := hc
      exact (hr i q v hq hv).norm1
  | _ => exact h

inductive DV where
  | undef
  | p (v : PV)
  | own (k sz start len room : Nat)
  | ptr (k sz i off : Nat)
  | agg (cells : List DV)
  | tup (vs : List DV)
  | fn (f : Fn) (first captured : List DV)
  deriving Inhabited

inductive Rows where
  | p (rows : List (List PV))
  | m (rows : List (List DV))
  deriving Inhabited

structure Ob where
  ro : Bool
  sz : Nat
  rows : Rows
  deriving Inhabited

def Rows.len : Rows → Nat
  | .p r => r.length
  | .m r => r.length
def Rows.wf (sz : Nat) : Rows → Prop
  | .p r => ∀ x, x ∈ r → x.length = sz
  | .m r => ∀ x, x ∈ r → x.length = sz
def Rows.at (r : Rows) (i j : Nat) : Option DV :=
  match r with
  | .p r => (rowAt r i j).map .p
  | .m r => rowAt r i j

inductive DRel (w : World) (S : Nat → Prop) (κ : Nat → Nat) : DV → Value → Prop
  | undef (v : Value) : DRel w S κ .undef v
  | p (v : PV) (x : Value) (h : PRel w S v x) : DRel w S κ (.p v) x
  | own (k sz start len room cap o : Nat) (hlen : len ≤ room) (hroom : room ≤ cap) (hmax : cap ≤ maxLen) (ho : cap = 0 ∨ o = start * sz)
      (cur : Array Value) (e : TypeId) (fr : Nat × Nat) (hb : w.heap[κ k]? = some (.cells cur e fr))
      (hfit : o + cap * sz ≤ cur.size ∨ cap = 0) : DRel w S κ (.own k sz start len room) (.slice (some ⟨κ k, o, none⟩) len cap)
  | ownnil (k sz : Nat) : DRel w S κ (.own k sz 0 0 0) (.slice none 0 0)
  | ptr (k sz i off : Nat) : DRel w S κ (.ptr k sz i off) (.pointer (some ⟨κ k, i * sz + off, none⟩))
  | agg (cs : List DV) (vs : List Value) (hl : cs.length = vs.length) (hrel : ∀ (i : Nat) (c : DV) (v : Value), cs[i]? = some c → vs[i]? = some v → DRel w S κ c v) :
      DRel w S κ (.agg cs) (.agg vs.toArray)
  | tup (cs : List DV) (vs : List Value) (hl : cs.length = vs.length) (hrel : ∀ (i : Nat) (c : DV) (v : Value), cs[i]? = some c → vs[i]? = some v → DRel w S κ c v) :
      DRel w S κ (.tup cs) (.tuple vs.toArray)
  | fn (g : Fn) (fs cs : List DV) (us vs : List Value) (hl1 : fs.length = us.length) (hl2 : cs.length = vs.length)
      (hrel1 : ∀ (i : Nat) (c : DV) (v : Value), fs[i]? = some c → us[i]? = some v → DRel w S κ c v) (hrel2 : ∀ (i : Nat) (c : DV) (v : Value), cs[i]? = some c → vs[i]? = some v → DRel w S κ c v) :
      DRel w S κ (.fn g fs cs) (.func g us.toArray vs.toArray)

end Go.Dl
set_option linter.unusedVariables false
set_option linter.unusedSimpArgs false
namespace Go.Dl

def lk {α : Type} : List (Nat × α) → Nat → Option α
  | [], _ => none
  | (k, v) :: r, i => if k = i then some v else lk r i

structure St where
  nt : Nat
  T : List (Nat × DV)
  H : List (Nat × Ob)

def St.get (st : St) (i : Nat) : DV := match lk st.T i with | some d => d | none => .undef
def St.set (st : St) (i : Nat) (d : DV) : St := { st with T := (i, d) :: st.T }

mutual
def DV.refs (k : Nat) : DV → Bool
  | .undef => false
  | .p _ => false
  | .own k' _ _ _ _ => k' == k
  | .ptr k' _ _ _ => k' == k
  | .agg cs => DV.refsL k cs
  | .tup cs => DV.refsL k cs
  | .fn _ a b => DV.refsL k a || DV.refsL k b
def DV.refsL (k : Nat) : List DV → Bool
  | [] => false
  | d :: r => DV.refs k d || DV.refsL k r
end

def DV.purge (k : Nat) (d : DV) : DV := if d.refs k then .undef else d
def purgeT (k : Nat) : List (Nat × DV) → List (Nat × DV)
  | [] => []
  | (i, d) :: r => (i, d.purge k) :: purgeT k r
def Rows.purge (k : Nat) : Rows → Rows
  | .p r => .p r
  | .m r => .m (r.map (·.map (DV.purge k)))
def purgeH (k : Nat) : List (Nat × Ob) → List (Nat × Ob)
  | [] => []
  | (i, ob) :: r => if i = k then purgeH k r else (i, { ob with rows := ob.rows.purge k }) :: purgeH k r
def St.drop (st : St) (k : Nat) : St := { st with T := purgeT k st.T, H := purgeH k st.H }
def St.new (st : St) (k : Nat) (ob : Ob) (d : DV) : St := { nt := st.nt, T := (k, d) :: purgeT k st.T, H := (k, ob) :: purgeH k st.H }
def St.upd (st : St) (k : Nat) (ob : Ob) : St := { st with H := (k, ob) :: st.H }

inductive DOpd where
  | t (i : Nat)
  | c (v : PV)
  | bad
  deriving Inhabited
def St.ev (st : St) : DOpd → DV
  | .t i => st.get i
  | .c v => .p v
  | .bad => .undef

inductive EK where
  | int | bool | str
  deriving DecidableEq, Inhabited

inductive DOp where
  | mv (x : DOpd)
  | pick (c a b : DOpd)
  | bin (op : BinOp) (x y : DOpd)
  | isnil (neg : Bool) (x : DOpd)
  | beq (neg : Bool) (x y : DOpd)
  | eqs (neg : Bool) (ks : List EK) (x y : DOpd)
  | un (op : UnOp) (x : DOpd)
  | cvi (k : IntKind) (x : DOpd)
  | cvbs (x : DOpd)
  | cvss (x : DOpd)
  | nilchk (x : DOpd)
  | faddr (off : Nat) (x : DOpd)
  | fld (off : Nat) (n : Option Nat) (x : DOpd)
  | iaddr (sz : Nat) (x i : DOpd)
  | idx (x i : DOpd)
  | slc (sz : Nat) (x : DOpd) (lo hi mx : Option DOpd)
  | ext (x : DOpd) (i : Nat)
  | len (isStr : Bool) (x : DOpd)
  | mx (big : Bool) (x y : DOpd)
  | mkf (f : Fn) (first captured : List DOpd)
  | build (zero : List PV) (parts : List (Nat × Nat × DOpd))
  | ld (n : Option Nat) (x : DOpd)
  | alloc (zero : List PV)
  | box (n : Nat) (x : DOpd)
  | bsl (sz n : Nat) (zero : List PV) (parts : List (Nat × DOpd))
  | mks (sz bytes : Nat) (zero : List PV) (l c : DOpd)
  | st (n : Nat) (a x : DOpd)
  | app (sz bytes : Nat) (x y : DOpd)
  | call (f : Nat) (args : List DOpd)
  | callv (x : DOpd) (args : List DOpd)
  | bad
  deriving Inhabited

structure DOper where
  dst : Option Nat
  op : DOp
  g : Option (Nat × Bool)
  deriving Inhabited

inductive DCode where
  | skip
  | reg (ops : List DOper)
  | draw (ops : List (DOper × List Nat × List Nat))
  | seq (a b : DCode)
  | cond (c : DOpd) (x y : DCode)
  | block (id : Nat) (b : DCode)
  | loop (b : DCode)
  | range (f : DOpd) (ps : List Nat) (asg body : DCode)
  | exit (id : Nat)
  | scope (b : DCode)
  | label
  | ret
  | bad
  deriving Inhabited

/-! what the operations with a value alone come to -/

def evBin (op : BinOp) : PV → PV → Option PV
  | .int k a, .int k' b =>
    match op with
    | .shl => if b < 0 then none else some (.int k (k.wrap (a * 2 ^ (min b.toNat k.bits))))
    | .shr => if b < 0 then none else some (.int k (a.fdiv (2 ^ (min b.toNat k.bits))))
    | _ => if k = k' then
      match op with
      | .add => some (.int k (k.wrap (a + b)))
      | .sub => some (.int k (k.wrap (a - b)))
      | .mul => some (.int k (k.wrap (a * b)))
      | .quo => if b = 0 then none else some (.int k (k.wrap (a.tdiv b)))
      | .rem => if b = 0 then none else some (.int k (a.tmod b))
      | .and => some (.int k (k.wrap (BitVec.ofInt k.bits a &&& BitVec.ofInt k.bits b).toNat))
      | .or => some (.int k (k.wrap (BitVec.ofInt k.bits a ||| BitVec.ofInt k.bits b).toNat))
      | .xor => some (.int k (k.wrap (BitVec.ofInt k.bits a ^^^ BitVec.ofInt k.bits b).toNat))
      | .andNot => some (.int k (k.wrap (BitVec.ofInt k.bits a &&& ~~~BitVec.ofInt k.bits b).toNat))
      | .eql => some (.bool (a == b))
      | .neq => some (.bool (a != b))
      | .lss => some (.bool (a < b))
      | .leq => some (.bool (a ≤ b))
      | .gtr => some (.bool (a > b))
      | .geq => some (.bool (a ≥ b))
      | _ => none
      else none
  | .str a, .str b =>
    match op with
    | .add => if a.length + b.length ≤ 9223372036854775807 then some (.str (a ++ b)) else none
    | .eql => some (.bool (a == b))
    | .neq => some (.bool !(a == b))
    | .lss => some (.bool (Op.bytesLess a b))
    | .leq => some (.bool (Op.bytesLess a b || a == b))
    | .gtr => some (.bool !(Op.bytesLess a b || a == b))
    | .geq => some (.bool !(Op.bytesLess a b))
    | _ => none
  | _, _ => none

/-- equality of aggregates whose cells are whole numbers, bools and texts -/
def eqCells : List EK → List PV → List PV → Option Bool
  | [], [], [] => some true
  | .int :: ks, .int k a :: x, .int k' b :: y => if k = k' then (eqCells ks x y).map (a == b && ·) else none
  | .bool :: ks, .bool a :: x, .bool b :: y => (eqCells ks x y).map (a == b && ·)
  | .str :: ks, .str a :: x, .str b :: y => (eqCells ks x y).map (a == b && ·)
  | _, _, _ => none

def pures : List DV → Option (List PV)
  | [] => some []
  | .p v :: r => (pures r).map (v :: ·)
  | _ :: _ => none
def mkAgg (cs : List DV) : DV := match pures cs with | some ps => .p (.agg ps) | none => .agg cs
def mkTup (cs : List DV) : DV := match pures cs with | some ps => .p (.tup ps) | none => .tup cs
def DV.cells : DV → List DV
  | .p (.agg cs) => cs.map .p
  | .agg cs => cs
  | d => [d]

def asNat (d : DV) : Option Nat := match d with | .p (.int _ n) => if 0 ≤ n then some n.toNat else none | _ => none

def bnd (top : Nat) (d : DV) : Option Nat := match asNat d with | some n => if n ≤ top then some n else none | none => none
def bndO (top def_ : Nat) : Option DV → Option Nat
  | none => some def_
  | some d => bnd top d
/-- bounds of a cut: l, h, m -/
def cutB (len cap : Nat) (lo hi mx : Option DV) : Option (Nat × Nat × Nat) :=
  match bndO cap cap mx with
  | none => none
  | some m => match (if hi.isNone && mx.isSome then none else bndO m len hi) with
    | none => none
    | some h => match bndO h 0 lo with
      | none => none
      | some l => some (l, h, m)

def ldRow {α : Type} (n : Option Nat) (r : List α) (off : Nat) (one : α → DV) (many : List α → DV) : Option DV :=
  match n with
  | none => (r[off]?).map one
  | some n => if off + n ≤ r.length then some (many ((r.drop off).take n)) else none

def PV.leaf : PV → Bool
  | .agg _ => false
  | .tup _ => false
  | _ => true
def DV.leaf : DV → Bool
  | .p v => v.leaf
  | .own .. => true
  | .ptr .. => true
  | .fn .. => true
  | _ => false
def fillRow (z : List DV) : List (Nat × Nat × DV) → Option (List DV)
  | [] => some z
  | (off, n, d) :: r => if d.cells.length = n ∧ off + n ≤ z.length ∧ d.cells.all DV.leaf = true then fillRow (z.take off ++ d.cells ++ z.drop (off + n)) r else none

def Rows.take (n : Nat) : Rows → Rows
  | .p a => .p (a.take n)
  | .m a => .m (a.take n)
def Rows.drop (n : Nat) : Rows → Rows
  | .p a => .p (a.drop n)
  | .m a => .m (a.drop n)
/-- a source's rows -/
def srcRows (st : St) (sz : Nat) : DV → Option Rows
  | .p (.sl b sz' rows _) => if sz' = sz ∨ b = some true then some (.p rows) else none
  | .own k sz' s len _ => if sz' = sz then match lk st.H k with
    | some ob => if ob.sz = sz ∧ s + len ≤ ob.rows.len then some ((ob.rows.drop s).take len) else none
    | none => none
    else none
  | .p (.str s) => if sz = 1 then some (.p (s.map fun b => [.int .u8 b.toNat])) else none
  | _ => none

def byteOf : List PV → Option UInt8
  | [.int .u8 n] => some (UInt8.ofNat n.toNat)
  | _ => none
def bytesOf : List (List PV) → Option (List UInt8)
  | [] => some []
  | r :: rs => match byteOf r, bytesOf rs with
    | some b, some bs => some (b :: bs)
    | _, _ => none

/-- the value of an operation that leaves memory alone -/
def evOp (st : St) : DOp → Option DV
  | .mv x => some (st.ev x)
  | .pick c a b => match st.ev c with
    | .p (.bool t) => some (if t then st.ev a else st.ev b)
    | _ => none
  | .bin op x y => match st.ev x, st.ev y with
    | .p a, .p b => (evBin op a b).map .p
    | _, _ => none
  | .isnil neg x => match st.ev x with
    | .p (.sl (some b) _ _ _) => some (.p (.bool (b != neg)))
    | _ => none
  | .beq neg x y => match st.ev x, st.ev y with
    | .p (.bool a), .p (.bool b) => some (.p (.bool ((a == b) != neg)))
    | _, _ => none
  | .eqs neg ks x y => match st.ev x, st.ev y with
    | .p (.agg a), .p (.agg b) => (eqCells ks a b).map fun t => .p (.bool (t != neg))
    | _, _ => none
  | .un op x => match st.ev x with
    | .p (.bool b) => if op = .not then some (.p (.bool !b)) else none
    | .p (.int k n) => if op = .neg then some (.p (.int k (k.wrap (0 - n)))) else none
    | _ => none
  | .cvi k x => match st.ev x with
    | .p (.int _ n) => some (.p (.int k (k.wrap n)))
    | _ => none
  | .cvss x => match st.ev x with
    | .p (.str s) => some (.p (.str s))
    | _ => none
  | .cvbs x => match st.ev x with
    | .p (.str _) => none
    | d => match srcRows st 1 d with
      | some (.p rows) => (bytesOf rows).map fun b => .p (.str b)
      | _ => none
  | .nilchk x => match st.ev x with
    | .ptr k a b c => some (.ptr k a b c)
    | .p (.pp a b c d) => some (.p (.pp a b c d))
    | .p (.fn (.func f) a b) => some (.p (.fn (.func f) a b))
    | .fn (.func f) a b => some (.fn (.func f) a b)
    | _ => none
  | .faddr o x => match st.ev x with
    | .ptr k sz i off => some (.ptr k sz i (off + o))
    | .p (.pp sz rows i off) => some (.p (.pp sz rows i (off + o)))
    | _ => none
  | .fld o n x => match st.ev x with
    | .p (.agg cs) => ldRow n cs o .p (fun l => .p (.agg l))
    | .agg cs => ldRow n cs o id mkAgg
    | _ => none
  | .iaddr sz x i => match st.ev x, st.ev i with
    | .p (.sl _ sz' rows sp), .p (.int _ n) => if sz' = sz ∧ 0 ≤ n ∧ n < rows.length then some (.p (.pp sz (rows ++ sp) n.toNat 0)) else none
    | .own k sz' s len _, .p (.int _ n) => if sz' = sz ∧ 0 ≤ n ∧ n < len then some (.ptr k sz (s + n.toNat) 0) else none
    | _, _ => none
  | .idx x i => match st.ev x, st.ev i with
    | .p (.str s), .p (.int _ n) => if 0 ≤ n then (s[n.toNat]?).map fun b => .p (.int .u8 b.toNat) else none
    | _, _ => none
  | .slc sz x lo hi mx =>
    match st.ev x with
    | .p (.str s) => if mx.isSome || sz != 0 then none else match cutB s.length s.length (lo.map st.ev) (hi.map st.ev) none with
      | some (l, h, _) => some (.p (.str ((s.drop l).take (h - l))))
      | none => none
    | .p (.sl b sz' rows sp) => if sz' = sz ∧ sz ≠ 0 then match cutB rows.length (rows.length + sp.length) (lo.map st.ev) (hi.map st.ev) (mx.map st.ev) with
      | some (l, h, m) => some (.p (.sl b sz (((rows ++ sp).drop l).take (h - l)) (((rows ++ sp).drop h).take (m - h))))
      | none => none
      else none
    | .own k sz' s len room => if sz' = sz ∧ sz ≠ 0 then match cutB len room (lo.map st.ev) (hi.map st.ev) (mx.map st.ev) with
      | some (l, h, m) => some (.own k sz (s + l) (h - l) (m - l))
      | none => none
      else none
    | _ => none
  | .ext x i => match st.ev x with
    | .p (.tup vs) => (vs[i]?).map .p
    | .tup vs => vs[i]?
    | _ => none
  | .len isStr x => match st.ev x with
    | .p (.str s) => if isStr then some (.p (.int .i64 s.length)) else none
    | .p (.sl _ _ rows _) => if isStr then none else some (.p (.int .i64 rows.length))
    | .own _ _ _ len _ => if isStr then none else some (.p (.int .i64 len))
    | _ => none
  | .mx big x y => match st.ev x, st.ev y with
    | .p (.int k a), .p (.int k' b) => if k = k' then some (.p (.int k (if big then max a b else min a b))) else none
    | _, _ => none
  | .mkf f a b => match pures (a.map st.ev), pures (b.map st.ev) with
    | some u, some v => some (.p (.fn f u v))
    | _, _ => some (.fn f (a.map st.ev) (b.map st.ev))
  | .build z ps => match fillRow (z.map .p) (ps.map fun p => (p.1, p.2.1, st.ev p.2.2)) with
    | some cs => some (mkAgg cs)
    | none => none
  | .ld n x => match st.ev x with
    | .p (.pp _ rows i off) => match rows[i]? with
      | some r => ldRow n r off .p (fun l => .p (.agg l))
      | none => none
    | .ptr k sz i off => match lk st.H k with
      | some ob => if ob.sz = sz then match ob.rows with
        | .p rows => match rows[i]? with
          | some r => ldRow n r off .p (fun l => .p (.agg l))
          | none => none
        | .m rows => match rows[i]? with
          | some r => ldRow n r off id mkAgg
          | none => none
        else none
      | none => none
    | _ => none
  | _ => none

def repl {α : Type} : Nat → List α → List α
  | 0, _ => []
  | n + 1, z => z ++ repl n z
def chunks {α : Type} : Nat → Nat → List α → List (List α)
  | 0, _, _ => []
  | n + 1, sz, l => l.take sz :: chunks n sz (l.drop sz)
def mapPures : List (List DV) → Option (List (List PV))
  | [] => some []
  | r :: rs => match pures r, mapPures rs with
    | some p, some ps => some (p :: ps)
    | _, _ => none
def mkRows (rs : List (List DV)) : Rows :=
  match mapPures rs with
  | some ps => .p ps
  | none => .m rs
def DV.nrm0 : DV → DV
  | .p v => .p v.norm0
  | d => d
def Rows.nrm : Rows → Rows
  | .p r => .p (r.map (·.map PV.norm0))
  | .m r => .m (r.map (·.map DV.nrm0))
def Rows.toM : Rows → List (List DV)
  | .p r => r.map (·.map .p)
  | .m r => r
def Rows.app : Rows → Rows → Rows
  | .p a, .p b => .p (a ++ b)
  | a, b => .m (a.toM ++ b.toM)
def splice {α : Type} (r : List α) (off : Nat) (cs : List α) : List α :=
  match cs with
  | [c] => r.set off c
  | _ => r.take off ++ cs ++ r.drop (off + cs.length)

/-- an operation that is no call of a function: the state behind it -/
def stepD (st : St) (dst : Option Nat) : DOp → Option St
  | .alloc z => match dst with
    | some d => if z.all PV.leaf then some (st.new d ⟨false, z.length, .p [z]⟩ (.ptr d z.length 0 0)) else none
    | none => none
  | .box n x => match dst with
    | some d => let cs := (st.ev x).cells
      if cs.length = n ∧ cs.all DV.leaf then match pures cs with
        | some ps => some (st.new d ⟨false, n, .p [ps]⟩ (.ptr d n 0 0))
        | none => if DV.refsL d cs then none else some (st.new d ⟨false, n, .m [cs]⟩ (.ptr d n 0 0))
      else none
    | none => none
  | .bsl sz n z ps => match dst with
    | some d => match fillRow (repl n (z.map .p)) (ps.map fun p => (p.1 * sz, sz, st.ev p.2)) with
      | some flat => if z.length = sz ∧ flat.all DV.leaf ∧ DV.refsL d flat = false ∧ 0 < sz ∧ n * sz ≤ 16777216 then some (st.new d ⟨false, sz, (mkRows (chunks n sz flat)).nrm⟩ (.own d sz 0 n n)) else none
      | none => none
    | none => none
  | .mks sz bytes z l c => match dst with
    | some d => match asNat (st.ev l), asNat (st.ev c) with
      | some l, some c => if l ≤ c ∧ c * bytes ≤ 281474976710656 ∧ c ≤ 9223372036854775807 ∧ z.length = sz ∧ 0 < sz ∧ z.all PV.leaf then
          some (st.new d ⟨false, sz, .p (List.replicate c z)⟩ (.own d sz 0 l c)) else none
      | _, _ => none
    | none => none
  | .st n a x => match dst, st.ev a with
    | none, .ptr k sz i off => match lk st.H k with
      | some ob => let cs := (st.ev x).cells
        if ob.ro = false ∧ ob.sz = sz ∧ cs.length = n ∧ cs.all DV.leaf then
          match ob.rows, pures cs with
          | .p rows, some ps => match rows[i]? with
            | some r => if off + n ≤ r.length then some (st.upd k { ob with rows := .p (rows.set i (splice r off ps)) }) else none
            | none => none
          | rows, _ => match rows.toM[i]? with
            | some r => if off + n ≤ r.length then some (st.upd k { ob with rows := .m (rows.toM.set i (splice r off cs)) }) else none
            | none => none
        else none
      | none => none
    | _, _ => none
  | .app sz bytes x y => match dst with
    | some d => match srcRows st sz (st.ev y) with
      | some src => if 0 < sz then match st.ev x with
        | .p (.sl (some true) _ _ _) => if src.len = 0 then some (st.set d (.p (.sl (some true) sz [] []))) else
            if src.len * bytes ≤ 140737488355328 ∧ src.len ≤ maxLen then some (st.new d ⟨false, sz, src.purge d⟩ (.own d sz 0 src.len src.len)) else none
        | .own k sz' 0 len _ => if sz' = sz then match lk st.H k with
          | some ob => if ob.ro = false ∧ ob.sz = sz ∧ len ≤ ob.rows.len ∧ (len + src.len) * bytes ≤ 140737488355328 ∧ len + src.len ≤ maxLen then
              some ((st.drop k).new d ⟨false, sz, (((ob.rows.take len).app src).purge k).purge d⟩ (.own d sz 0 (len + src.len) (len + src.len))) else none
          | none => none
          else none
        | _ => none
        else none
      | none => none
    | none => none
  | o => match dst with
    | some d => (evOp st o).map (st.set d)
    | none => none

def stepGd (st : St) (o : DOper) : Option St :=
  match o.g with
  | none => stepD st o.dst o.op
  | some (i, want) => match st.get i with
    | .p (.bool b) => if b = want then stepD st o.dst o.op else match o.dst with
      | some d => some (st.set d (.p (.tup [])))
      | none => some st
    | .p (.tup []) => match o.dst with
      | some d => some (st.set d (.p (.tup [])))
      | none => some st
    | _ => none

end Go.Dl
set_option linter.unusedVariables false
set_option linter.unusedSimpArgs false
namespace Go.Dl

structure Fx where
  S0 : Nat → Prop
  X : Nat → Prop
  w0 : World
  ds : List Deferred
  pin : Nat → Option Nat

/-- w' is w but for new blocks and blocks of X. -/
structure Fr (X : Nat → Prop) (w w' : World) : Prop where
  os : w'.os = w.os
  tape : w'.tape = w.tape
  output : w'.output = w.output
  size : w.heap.size ≤ w'.heap.size
  block : ∀ b, b < w.heap.size → ¬ X b → w'.heap[b]? = w.heap[b]?
  shape : ∀ (b : Nat) (cur : Array Value) (e : TypeId) (fr : Nat × Nat), w.heap[b]? = some (.cells cur e fr) → ∃ cur' fr', w'.heap[b]? = some (.cells cur' e fr') ∧ cur'.size = cur.size

theorem Fr.refl (X : Nat → Prop) (w : World) : Fr X w w := ⟨rfl, rfl, rfl, Nat.le_refl _, fun _ _ _ => rfl, fun _ cur _ fr h => ⟨cur, fr, h, rfl⟩⟩
theorem Fr.trans {X : Nat → Prop} {a b c : World} (h : Fr X a b) (k : Fr X b c) : Fr X a c :=
  ⟨k.os.trans h.os, k.tape.trans h.tape, k.output.trans h.output, Nat.le_trans h.size k.size,
   fun i hi hx => (k.block i (Nat.lt_of_lt_of_le hi h.size) hx).trans (h.block i hi hx),
   fun b cur e fr hb => by
    obtain ⟨c1, f1, h1, s1⟩ := h.shape b cur e fr hb
    obtain ⟨c2, f2, h2, s2⟩ := k.shape b c1 e f1 h1
    exact ⟨c2, f2, h2, s2.trans s1⟩⟩
theorem Fr.trans' {X Y : Nat → Prop} {a b c : World} (h : Fr X a b) (k : Fr Y b c) (hXY : ∀ i, i < a.heap.size → Y i → X i) : Fr X a c :=
  ⟨k.os.trans h.os, k.tape.trans h.tape, k.output.trans h.output, Nat.le_trans h.size k.size,
   fun i hi hx => (k.block i (Nat.lt_of_lt_of_le hi h.size) (fun hy => hx (hXY i hi hy))).trans (h.block i hi hx),
   fun b cur e fr hb => by
    obtain ⟨c1, f1, h1, s1⟩ := h.shape b cur e fr hb
    obtain ⟨c2, f2, h2, s2⟩ := k.shape b c1 e f1 h1
    exact ⟨c2, f2, h2, s2.trans s1⟩⟩
theorem Fr.keep {X : Nat → Prop} {w w' : World} (h : Fr X w w') {S : Nat → Prop} (hS : ∀ b, b < w.heap.size → X b → S b) : Keep S w w' :=
  ⟨h.size, fun b hb hn => h.block b hb (fun hx => hn (hS b hb hx)), h.shape⟩

theorem getElem?_lt {w : World} {b : Nat} {o : Obj} (h : w.heap[b]? = some o) : b < w.heap.size := (Array.getElem?_eq_some_iff.1 h).1

theorem DRel.mono {w w' : World} {S S' : Nat → Prop} {κ : Nat → Nat} {d : DV} {v : Value} (h : DRel w S κ d v) (hk : Keep S w w') (hS : ∀ b, b < w.heap.size → S' b → S b) : DRel w' S' κ d v := by
  induction h with
  | undef => exact .undef _
  | p v x h => exact .p _ _ (h.mono hk hS)
  | own k sz start len room cap o h1 h2 h3 h4 cur e fr hb hfit =>
    obtain ⟨cur', fr', hb', hs⟩ := hk.shape _ _ _ _ hb
    exact .own k sz start len room cap o h1 h2 h3 h4 cur' e fr' hb' (by rw [hs]; exact hfit)
  | ownnil k sz => exact .ownnil _ _
  | ptr => exact .ptr _ _ _ _
  | agg cs vs hl _ ih => exact .agg cs vs hl ih
  | tup cs vs hl _ ih => exact .tup cs vs hl ih
  | fn g fs cs us vs h1 h2 _ _ ih1 ih2 => exact .fn g fs cs us vs h1 h2 ih1 ih2

theorem refsL_get {k : Nat} : ∀ {cs : List DV}, DV.refsL k cs = false → ∀ (i : Nat) (c : DV), cs[i]? = some c → DV.refs k c = false
  | [], _, i, c, h => by simp at h
  | d :: r, h, i, c, hc => by
    simp only [DV.refsL, Bool.or_eq_false_iff] at h
    cases i with
    | zero => simp at hc; rw [← hc]; exact h.1
    | succ i => exact refsL_get h.2 i c (by simpa using hc)

theorem DRel.rekey {w : World} {S : Nat → Prop} {κ κ' : Nat → Nat} {d : DV} {v : Value} (k : Nat) (h : DRel w S κ d v) (hκ : ∀ j, j ≠ k → κ' j = κ j) (hr : d.refs k = false) : DRel w S κ' d v := by
  induction h with
  | undef => exact .undef _
  | p v x h => exact .p _ _ h
  | own k' sz start len room cap o h1 h2 h3 h4 cur e fr hb hfit =>
    have hne : k' ≠ k := by simpa [DV.refs] using hr
    rw [← hκ k' hne] at hb ⊢
    exact .own k' sz start len room cap o h1 h2 h3 h4 cur e fr hb hfit
  | ownnil k sz => exact .ownnil _ _
  | ptr k' sz i off =>
    have hne : k' ≠ k := by simpa [DV.refs] using hr
    rw [← hκ k' hne]
    exact .ptr _ _ _ _
  | agg cs vs hl _ ih => exact .agg cs vs hl fun i c v hc hv => ih i c v hc hv (refsL_get (by simpa [DV.refs] using hr) i c hc)
  | tup cs vs hl _ ih => exact .tup cs vs hl fun i c v hc hv => ih i c v hc hv (refsL_get (by simpa [DV.refs] using hr) i c hc)
  | fn g fs cs us vs h1 h2 _ _ ih1 ih2 =>
    have hr' : DV.refsL k fs = false ∧ DV.refsL k cs = false := by simpa [DV.refs] using hr
    exact .fn g fs cs us vs h1 h2 (fun i c v hc hv => ih1 i c v hc hv (refsL_get hr'.1 i c hc)) (fun i c v hc hv => ih2 i c v hc hv (refsL_get hr'.2 i c hc))

theorem DRel.purge {w : World} {S : Nat → Prop} {κ κ' : Nat → Nat} {d : DV} {v : Value} (k : Nat) (h : DRel w S κ d v) (hκ : ∀ j, j ≠ k → κ' j = κ j) : DRel w S κ' (d.purge k) v := by
  unfold DV.purge
  cases hr : d.refs k with
  | true => exact .undef _
  | false => exact h.rekey k hκ hr

/-- An object, in its block. -/
structure ObRel (w : World) (S : Nat → Prop) (κ : Nat → Nat) (k : Nat) (ob : Ob) : Prop where
  wf : ob.rows.wf ob.sz
  there : ∃ cur e, w.heap[κ k]? = some (.cells cur e (0, 0)) ∧ ob.rows.len * ob.sz ≤ cur.size ∧
    ∀ i j d, ob.rows.at i j = some d → ∃ v, cur[i * ob.sz + j]? = some v ∧ v.oneCell' = true ∧ DRel w S κ d v

def owned (st : St) (κ : Nat → Nat) (b : Nat) : Prop := ∃ k ob, lk st.H k = some ob ∧ ob.ro = false ∧ κ k = b
def Fx.S (x : Fx) (st : St) (κ : Nat → Nat) (b : Nat) : Prop := x.S0 b ∨ owned st κ b

structure Sat (x : Fx) (st : St) (κ : Nat → Nat) (a : Act) (w : World) : Prop where
  ds : a.defers = x.ds
  nt : a.tmps.size = st.nt
  T : ∀ i d, lk st.T i = some d → DRel w (x.S st κ) κ d (a.tmps.getD i undef)
  H : ∀ k ob, lk st.H k = some ob → ObRel w (x.S st κ) κ k ob
  inj : ∀ k k' ob ob', lk st.H k = some ob → lk st.H k' = some ob' → κ k = κ k' → k = k'
  mine : ∀ k ob, lk st.H k = some ob → (x.w0.heap.size ≤ κ k ∨ x.X (κ k)) ∧ ¬ x.S0 (κ k)
  fr : Fr x.X x.w0 w
  s0 : ∀ b, x.S0 b → b < x.w0.heap.size
  pin : ∀ k b, x.pin k = some b → κ k = b ∧ st.nt ≤ k

theorem Sat.get {x : Fx} {st : St} {κ : Nat → Nat} {a : Act} {w : World} (h : Sat x st κ a w) (i : Nat) : DRel w (x.S st κ) κ (st.get i) (a.tmps.getD i undef) := by
  unfold St.get
  cases hl : lk st.T i with
  | none => exact .undef _
  | some d => exact h.T i d hl

theorem lk_cons {α : Type} (k : Nat) (v : α) (r : List (Nat × α)) (i : Nat) : lk ((k, v) :: r) i = if k = i then some v else lk r i := rfl

theorem getD_put (a : Act) (i j : Nat) (v : Value) (hi : i < a.tmps.size) : (a.put (some i) v).tmps.getD j undef = if i = j then v else a.tmps.getD j undef := by
  simp only [Act.put]
  by_cases h : i = j
  · subst h
    simp [Array.getD, hi]
  · by_cases hj : j < a.tmps.size <;> simp [Array.getD, h, hj]

theorem put_size (a : Act) (d : Option Nat) (v : Value) : (a.put d v).tmps.size = a.tmps.size := by
  cases d <;> simp [Act.put]
theorem put_defers (a : Act) (d : Option Nat) (v : Value) : (a.put d v).defers = a.defers := by
  cases d <;> rfl

/-- A slot gets a value; memory stays. -/
theorem Sat.set {x : Fx} {st : St} {κ : Nat → Nat} {a : Act} {w : World} (h : Sat x st κ a w) (i : Nat) (hi : i < st.nt) (d : DV) (v : Value) (hd : DRel w (x.S st κ) κ d v) :
    Sat x (st.set i d) κ (a.put (some i) v) w where
  ds := by rw [put_defers]; exact h.ds
  nt := by rw [put_size]; exact h.nt
  T := by
    intro j d' hj
    rw [getD_put _ _ _ _ (by rw [h.nt]; exact hi)]
    simp only [St.set, lk_cons] at hj
    split at hj
    · rename_i e; rw [if_pos e]; cases hj; exact hd
    · rename_i e; rw [if_neg e]; exact h.T j d' hj
  H := h.H
  inj := h.inj
  mine := h.mine
  fr := h.fr
  s0 := h.s0
  pin := h.pin

/-- The world moves on by steps that leave all that the state speaks of. -/
theorem Sat.world {x : Fx} {st : St} {κ : Nat → Nat} {a : Act} {w w' : World} (h : Sat x st κ a w) (hf : Fr (fun _ => False) w w') : Sat x st κ a w' where
  ds := h.ds
  nt := h.nt
  T := fun i d hd => (h.T i d hd).mono (hf.keep (fun _ _ h => h.elim)) (fun _ _ h => h)
  H := fun k ob hk => by
    obtain ⟨wf, cur, e, hb, hs, hc⟩ := h.H k ob hk
    refine ⟨wf, cur, e, ?_, hs, fun i j d hd => ?_⟩
    · rw [hf.block _ (getElem?_lt hb) (fun h => h)]; exact hb
    · obtain ⟨v, h1, h2, h3⟩ := hc i j d hd
      exact ⟨v, h1, h2, h3.mono (hf.keep (fun _ _ h => h.elim)) (fun _ _ h => h)⟩
  inj := h.inj
  mine := h.mine
  fr := h.fr.trans' hf (fun _ _ h => h.elim)
  s0 := h.s0
  pin := h.pin

theorem lk_purgeT (k : Nat) : ∀ (T : List (Nat × DV)) (i : Nat), lk (purgeT k T) i = (lk T i).map (DV.purge k)
  | [], i => rfl
  | (j, d) :: r, i => by
    simp only [purgeT, lk_cons]
    split
    · rfl
    · exact lk_purgeT k r i

theorem lk_purgeH (k : Nat) : ∀ (H : List (Nat × Ob)) (i : Nat), lk (purgeH k H) i = if i = k then none else (lk H i).map fun ob => { ob with rows := ob.rows.purge k }
  | [], i => by simp [purgeH, lk]
  | (j, ob) :: r, i => by
    simp only [purgeH]
    split
    · rename_i e
      rw [lk_purgeH k r i, lk_cons]
      by_cases hi : i = k
      · simp [hi]
      · rw [if_neg hi, if_neg hi, if_neg (by rw [e]; exact Ne.symm hi)]
    · rename_i e
      simp only [lk_cons]
      by_cases hj : j = i
      · subst hj; rw [if_pos rfl, if_pos rfl, if_neg e]; rfl
      · rw [if_neg hj, if_neg hj]; exact lk_purgeH k r i

theorem rowAt_map {α β : Type} (f : α → β) (rows : List (List α)) (i j : Nat) : rowAt (rows.map (·.map f)) i j = (rowAt rows i j).map f := by
  unfold rowAt
  cases h : rows[i]? <;> simp [h]

theorem Rows.at_purge (r : Rows) (k i j : Nat) (d : DV) (h : (r.purge k).at i j = some d) : ∃ d', r.at i j = some d' ∧ (d = d'.purge k) := by
  cases r with
  | p r =>
    simp only [Rows.purge, Rows.at] at h ⊢
    refine ⟨d, h, ?_⟩
    cases hr : rowAt r i j with
    | none => simp [hr] at h
    | some v => simp only [hr, Option.map_some, Option.some.injEq] at h; rw [← h]; rfl
  | m r =>
    simp only [Rows.purge, Rows.at, rowAt_map] at h ⊢
    cases hr : rowAt r i j with
    | none => simp [hr] at h
    | some v => simp only [hr, Option.map_some, Option.some.injEq] at h; exact ⟨v, rfl, h.symm⟩

theorem Rows.len_purge (r : Rows) (k : Nat) : (r.purge k).len = r.len := by cases r <;> simp [Rows.purge, Rows.len]
theorem Rows.wf_purge {r : Rows} {sz : Nat} (k : Nat) (h : r.wf sz) : (r.purge k).wf sz := by
  cases r with
  | p r => exact h
  | m r =>
    intro x hx
    simp only [List.mem_map] at hx
    obtain ⟨y, hy, rfl⟩ := hx
    simpa using h y hy

def upd (κ : Nat → Nat) (k b : Nat) : Nat → Nat := fun j => if j = k then b else κ j
theorem upd_same (κ : Nat → Nat) (k b : Nat) : upd κ k b k = b := by simp [upd]
theorem upd_ne (κ : Nat → Nat) (k b j : Nat) (h : j ≠ k) : upd κ k b j = κ j := by simp [upd, h]

/-- A new object under key k, in a block of its own, with a slot that refers to it. -/
theorem Sat.newTo {x : Fx} {st : St} {κ : Nat → Nat} {a : Act} {w w' : World} (h : Sat x st κ a w) (k : Nat) (hk : k < st.nt) (ob : Ob) (d : DV) (v : Value) (b : Nat)
    (hf : Fr (fun _ => False) w w') (hb : w.heap.size ≤ b)
    (hob : ∀ S, (∀ c, S c → x.S st κ c ∨ c = b) → S b ∨ ob.ro = true → ObRel w' S (upd κ k b) k ob)
    (hd : ∀ S, (∀ c, S c → x.S st κ c ∨ c = b) → S b ∨ ob.ro = true → DRel w' S (upd κ k b) d v) :
    Sat x (st.new k ob d) (upd κ k b) (a.put (some k) v) w' := by
  have hlk : ∀ j, lk (st.new k ob d).H j = if k = j then some ob else (lk st.H j).map fun ob => { ob with rows := ob.rows.purge k } := by
    intro j
    simp only [St.new, lk_cons]
    by_cases e : k = j
    · rw [if_pos e, if_pos e]
    · rw [if_neg e, if_neg e, lk_purgeH, if_neg (Ne.symm e)]
  have hlt : ∀ j ob', lk st.H j = some ob' → κ j < w.heap.size := by
    intro j ob' hj
    obtain ⟨_, cur, e, hb', _⟩ := h.H j ob' hj
    exact getElem?_lt hb'
  have hS' : ∀ c, x.S (st.new k ob d) (upd κ k b) c → x.S st κ c ∨ c = b := by
    intro c hs
    rcases hs with hs | ⟨j, ob', hj, hro, he⟩
    · exact .inl (.inl hs)
    · rw [hlk] at hj
      by_cases e : k = j
      · subst e; rw [upd_same] at he; exact .inr he.symm
      · rw [if_neg e] at hj
        rw [upd_ne _ _ _ _ (Ne.symm e)] at he
        cases hl : lk st.H j with
        | none => simp [hl] at hj
        | some o =>
          simp only [hl, Option.map_some, Option.some.injEq] at hj
          exact .inl (.inr ⟨j, o, hl, by rw [← hj] at hro; exact hro, he⟩)
  have hS : ∀ c, c < w.heap.size → x.S (st.new k ob d) (upd κ k b) c → x.S st κ c := fun c hc hs => by
    rcases hS' c hs with h | h
    · exact h
    · omega
  have hSb : x.S (st.new k ob d) (upd κ k b) b ∨ ob.ro = true := by
    cases hro : ob.ro with
    | true => exact .inr rfl
    | false => exact .inl (.inr ⟨k, ob, by rw [hlk, if_pos rfl], hro, upd_same _ _ _⟩)
  have hmono : ∀ {d' : DV} {v' : Value}, DRel w (x.S st κ) κ d' v' → DRel w' (x.S (st.new k ob d) (upd κ k b)) (upd κ k b) (d'.purge k) v' := by
    intro d' v' hd'
    exact (hd'.mono (hf.keep (fun _ _ h => h.elim)) hS).purge k (fun j hj => upd_ne _ _ _ _ hj)
  refine ⟨?_, ?_, ?_, ?_, ?_, ?_, ?_, h.s0, fun i c hi => ?_⟩
  rotate_left 7
  · obtain ⟨g1, g2⟩ := h.pin i c hi
    exact ⟨by rw [upd_ne _ _ _ _ (by omega)]; exact g1, g2⟩
  · rw [put_defers]; exact h.ds
  · rw [put_size]; exact h.nt
  · intro j d' hj
    rw [getD_put _ _ _ _ (by rw [h.nt]; exact hk)]
    simp only [St.new, lk_cons] at hj
    split at hj
    · rename_i e; rw [if_pos e]; cases hj; exact hd _ hS' hSb
    · rename_i e
      rw [if_neg e]
      rw [lk_purgeT] at hj
      cases hl : lk st.T j with
      | none => simp [hl] at hj
      | some o =>
        simp only [hl, Option.map_some, Option.some.injEq] at hj
        rw [← hj]
        exact hmono (h.T j o hl)
  · intro j ob' hj
    rw [hlk] at hj
    by_cases e : k = j
    · subst e; rw [if_pos rfl] at hj; cases hj; exact hob _ hS' hSb
    · rw [if_neg e] at hj
      cases hl : lk st.H j with
      | none => simp [hl] at hj
      | some o =>
        simp only [hl, Option.map_some, Option.some.injEq] at hj
        subst hj
        obtain ⟨wf, cur, ee, hb', hs, hc⟩ := h.H j o hl
        refine ⟨Rows.wf_purge k wf, cur, ee, ?_, ?_, fun i' j' d' hd' => ?_⟩
        · rw [upd_ne _ _ _ _ (Ne.symm e), hf.block _ (getElem?_lt hb') (fun h => h)]; exact hb'
        · rw [Rows.len_purge]; exact hs
        · obtain ⟨d0, h0, rfl⟩ := Rows.at_purge _ _ _ _ _ hd'
          obtain ⟨v', h1, h2, h3⟩ := hc _ _ _ h0
          exact ⟨v', h1, h2, hmono h3⟩
  · intro j j' ob1 ob2 h1 h2 he
    rw [hlk] at h1 h2
    by_cases e : k = j
    · by_cases e' : k = j'
      · exact e.symm.trans e'
      · subst e
        rw [if_neg e'] at h2
        cases hl : lk st.H j' with
        | none => simp [hl] at h2
        | some o => rw [upd_same, upd_ne _ _ _ _ (Ne.symm e')] at he; have := hlt j' o hl; omega
    · rw [if_neg e] at h1
      cases hl : lk st.H j with
      | none => simp [hl] at h1
      | some o =>
        by_cases e' : k = j'
        · subst e'; rw [upd_same, upd_ne _ _ _ _ (Ne.symm e)] at he; have := hlt j o hl; omega
        · rw [if_neg e'] at h2
          cases hl' : lk st.H j' with
          | none => simp [hl'] at h2
          | some o' =>
            rw [upd_ne _ _ _ _ (Ne.symm e), upd_ne _ _ _ _ (Ne.symm e')] at he
            exact h.inj j j' o o' hl hl' he
  · intro j ob' hj
    rw [hlk] at hj
    by_cases e : k = j
    · subst e
      rw [upd_same]
      exact ⟨.inl (Nat.le_trans h.fr.size hb), fun hs => by have := h.s0 _ hs; have := h.fr.size; omega⟩
    · rw [if_neg e] at hj
      cases hl : lk st.H j with
      | none => simp [hl] at hj
      | some o => rw [upd_ne _ _ _ _ (Ne.symm e)]; exact h.mine j o hl
  · exact h.fr.trans' hf (fun _ _ h => h.elim)

theorem Sat.new {x : Fx} {st : St} {κ : Nat → Nat} {a : Act} {w w' : World} (h : Sat x st κ a w) (k : Nat) (hk : k < st.nt) (ob : Ob) (d : DV) (v : Value) (b : Nat)
    (hf : Fr (fun _ => False) w w') (hb : w.heap.size ≤ b)
    (hob : ∀ S, (∀ c, c < w.heap.size → S c → x.S st κ c) → S b ∨ ob.ro = true → ObRel w' S (upd κ k b) k ob)
    (hd : ∀ S, (∀ c, c < w.heap.size → S c → x.S st κ c) → S b ∨ ob.ro = true → DRel w' S (upd κ k b) d v) :
    Sat x (st.new k ob d) (upd κ k b) (a.put (some k) v) w' :=
  have g : ∀ S : Nat → Prop, (∀ c, S c → x.S st κ c ∨ c = b) → ∀ c, c < w.heap.size → S c → x.S st κ c := fun S hS c hc hs => by
    rcases hS c hs with h | h
    · exact h
    · omega
  h.newTo k hk ob d v b hf hb (fun S hS => hob S (g S hS)) (fun S hS => hd S (g S hS))

theorem Sat.ownedBlock {x : Fx} {st : St} {κ : Nat → Nat} {k : Nat} {ob0 : Ob} (hk : lk st.H k = some ob0) (hro : ob0.ro = false) : x.S st κ (κ k) := .inr ⟨k, ob0, hk, hro, rfl⟩

/-- The object k is consumed; a new one under key j lies in its block, which alone has turned. -/
theorem Sat.moveTo {x : Fx} {st : St} {κ : Nat → Nat} {a : Act} {w w' : World} (h : Sat x st κ a w) (k : Nat) (ob0 : Ob) (hk0 : lk st.H k = some ob0) (hro : ob0.ro = false)
    (b : Nat) (hb : b = κ k ∨ w.heap.size ≤ b) (j : Nat) (hj : j < st.nt) (ob : Ob) (d : DV) (v : Value) (hf : Fr (fun b => b = κ k) w w')
    (hob : ∀ S, (∀ c, S c → (x.S st κ c ∧ c ≠ κ k) ∨ c = b) → ObRel w' S (upd κ j b) j ob)
    (hd : ∀ S, (∀ c, S c → (x.S st κ c ∧ c ≠ κ k) ∨ c = b) → DRel w' S (upd κ j b) d v) :
    Sat x ((st.drop k).new j ob d) (upd κ j b) (a.put (some j) v) w' := by
  have hlk : ∀ i, lk ((st.drop k).new j ob d).H i = if j = i then some ob else if i = k then none else (lk st.H i).map fun ob => { ob with rows := (ob.rows.purge k).purge j } := by
    intro i
    simp only [St.new, St.drop, lk_cons]
    by_cases e : j = i
    · rw [if_pos e, if_pos e]
    · rw [if_neg e, if_neg e, lk_purgeH, if_neg (Ne.symm e), lk_purgeH]
      split
      · rfl
      · cases lk st.H i <;> rfl
  have hold : ∀ {i : Nat} {ob' : Ob}, j ≠ i → lk ((st.drop k).new j ob d).H i = some ob' → ∃ o, lk st.H i = some o ∧ i ≠ k ∧ ob' = { o with rows := (o.rows.purge k).purge j } := by
    intro i ob' e hi
    rw [hlk, if_neg e] at hi
    by_cases hik : i = k
    · rw [if_pos hik] at hi; cases hi
    · rw [if_neg hik] at hi
      cases hl : lk st.H i with
      | none => simp [hl] at hi
      | some o => simp only [hl, Option.map_some, Option.some.injEq] at hi; exact ⟨o, rfl, hik, hi.symm⟩
  have hlt : ∀ j ob', lk st.H j = some ob' → κ j < w.heap.size := by
    intro j ob' hj
    obtain ⟨_, cur, e, hb', _⟩ := h.H j ob' hj
    exact getElem?_lt hb'
  have hS' : ∀ c, x.S ((st.drop k).new j ob d) (upd κ j b) c → (x.S st κ c ∧ c ≠ κ k) ∨ c = b := by
    intro c hs
    rcases hs with hs | ⟨i, ob', hi, hro', he⟩
    · exact .inl ⟨.inl hs, fun e => (h.mine k ob0 hk0).2 (by rw [← e]; exact hs)⟩
    · by_cases e : j = i
      · subst e; rw [upd_same] at he; exact .inr he.symm
      · obtain ⟨o, ho, hik, rfl⟩ := hold e hi
        rw [upd_ne _ _ _ _ (Ne.symm e)] at he
        exact .inl ⟨.inr ⟨i, o, ho, hro', he⟩, fun e' => hik (h.inj _ _ _ _ ho hk0 (he.trans e'))⟩
  have hS : ∀ c, c < w.heap.size → x.S ((st.drop k).new j ob d) (upd κ j b) c → x.S st κ c := by
    intro c hc hs
    rcases hS' c hs with hs | hs
    · exact hs.1
    · rcases hb with hb | hb
      · rw [hs, hb]; exact Sat.ownedBlock hk0 hro
      · omega
  have hmono : ∀ {d' : DV} {v' : Value}, DRel w (x.S st κ) κ d' v' → DRel w' (x.S ((st.drop k).new j ob d) (upd κ j b)) (upd κ j b) ((d'.purge k).purge j) v' := by
    intro d' v' hd'
    have h1 := hd'.mono (hf.keep (S := x.S st κ) (fun b _ e => by rw [e]; exact Sat.ownedBlock hk0 hro)) hS
    exact (h1.purge k (fun _ _ => rfl)).purge j (fun i hi => upd_ne _ _ _ _ hi)
  refine ⟨?_, ?_, ?_, ?_, ?_, ?_, ?_, h.s0, fun i c hi => ?_⟩
  rotate_left 7
  · obtain ⟨g1, g2⟩ := h.pin i c hi
    have g2 : st.nt ≤ i := g2
    exact ⟨by rw [upd_ne _ _ _ _ (by omega)]; exact g1, g2⟩
  · rw [put_defers]; exact h.ds
  · rw [put_size]; exact h.nt
  · intro i d' hi
    rw [getD_put _ _ _ _ (by rw [h.nt]; exact hj)]
    simp only [St.new, St.drop, lk_cons] at hi
    split at hi
    · rename_i e; rw [if_pos e]; cases hi; exact hd _ hS'
    · rename_i e
      rw [if_neg e]
      rw [lk_purgeT, lk_purgeT] at hi
      cases hl : lk st.T i with
      | none => simp [hl] at hi
      | some o =>
        simp only [hl, Option.map_some, Option.some.injEq] at hi
        rw [← hi]
        exact hmono (h.T i o hl)
  · intro i ob' hi
    by_cases e : j = i
    · subst e; rw [hlk, if_pos rfl] at hi; cases hi; exact hob _ hS'
    · obtain ⟨o, ho, hik, rfl⟩ := hold e hi
      obtain ⟨wf, cur, ee, hb', hs, hc⟩ := h.H i o ho
      refine ⟨Rows.wf_purge j (Rows.wf_purge k wf), cur, ee, ?_, ?_, fun i' j' d' hd' => ?_⟩
      · rw [upd_ne _ _ _ _ (Ne.symm e), hf.block _ (getElem?_lt hb') (fun he => hik (h.inj _ _ _ _ ho hk0 he))]; exact hb'
      · rw [Rows.len_purge, Rows.len_purge]; exact hs
      · obtain ⟨d0, h0, rfl⟩ := Rows.at_purge _ _ _ _ _ hd'
        obtain ⟨d1, h1, rfl⟩ := Rows.at_purge _ _ _ _ _ h0
        obtain ⟨v', g1, g2, g3⟩ := hc _ _ _ h1
        exact ⟨v', g1, g2, hmono g3⟩
  · intro i i' ob1 ob2 h1 h2 he
    by_cases e : j = i
    · by_cases e' : j = i'
      · exact e.symm.trans e'
      · subst e
        obtain ⟨o, ho, hik, _⟩ := hold e' h2
        rw [upd_same, upd_ne _ _ _ _ (Ne.symm e')] at he
        rcases hb with hb | hb
        · exact absurd (h.inj _ _ _ _ ho hk0 (he.symm.trans hb)) hik
        · have := hlt _ _ ho; omega
    · obtain ⟨o, ho, hik, _⟩ := hold e h1
      by_cases e' : j = i'
      · subst e'
        rw [upd_same, upd_ne _ _ _ _ (Ne.symm e)] at he
        rcases hb with hb | hb
        · exact absurd (h.inj _ _ _ _ ho hk0 (he.trans hb)) hik
        · have := hlt _ _ ho; omega
      · obtain ⟨o', ho', _, _⟩ := hold e' h2
        rw [upd_ne _ _ _ _ (Ne.symm e), upd_ne _ _ _ _ (Ne.symm e')] at he
        exact h.inj _ _ _ _ ho ho' he
  · intro i ob' hi
    by_cases e : j = i
    · subst e; rw [upd_same]
      rcases hb with hb | hb
      · rw [hb]; exact h.mine k ob0 hk0
      · exact ⟨.inl (Nat.le_trans h.fr.size hb), fun hs => by have := h.s0 _ hs; have := h.fr.size; omega⟩
    · obtain ⟨o, ho, _, _⟩ := hold e hi
      rw [upd_ne _ _ _ _ (Ne.symm e)]; exact h.mine i o ho
  · exact h.fr.trans' hf (fun i hi e => by
      rcases (h.mine k ob0 hk0).1 with hm | hm
      · omega
      · rw [e]; exact hm)

theorem Sat.move {x : Fx} {st : St} {κ : Nat → Nat} {a : Act} {w w' : World} (h : Sat x st κ a w) (k : Nat) (ob0 : Ob) (hk0 : lk st.H k = some ob0) (hro : ob0.ro = false)
    (j : Nat) (hj : j < st.nt) (ob : Ob) (d : DV) (v : Value) (hf : Fr (fun b => b = κ k) w w')
    (hob : ∀ S, (∀ c, c < w.heap.size → S c → x.S st κ c) → ObRel w' S (upd κ j (κ k)) j ob)
    (hd : ∀ S, (∀ c, c < w.heap.size → S c → x.S st κ c) → DRel w' S (upd κ j (κ k)) d v) :
    Sat x ((st.drop k).new j ob d) (upd κ j (κ k)) (a.put (some j) v) w' := 
  have g : ∀ S : Nat → Prop, (∀ c, S c → (x.S st κ c ∧ c ≠ κ k) ∨ c = κ k) → ∀ c, c < w.heap.size → S c → x.S st κ c := fun S hS c hc hs => by
    rcases hS c hs with h | h
    · exact h.1
    · rw [h]; exact Sat.ownedBlock hk0 hro
  h.moveTo k ob0 hk0 hro (κ k) (.inl rfl) j hj ob d v hf (fun S hS => hob S (g S hS)) (fun S hS => hd S (g S hS))

/-- The object k turns in place. -/
theorem Sat.updOb {x : Fx} {st : St} {κ : Nat → Nat} {a : Act} {w w' : World} (h : Sat x st κ a w) (k : Nat) (ob0 : Ob) (hk0 : lk st.H k = some ob0) (hro : ob0.ro = false)
    (ob : Ob) (hf : Fr (fun b => b = κ k) w w') (hrn : ob.ro = false) (hob : ObRel w' (x.S st κ) κ k ob) : Sat x (st.upd k ob) κ a w' := by
  have hlk : ∀ i, lk (st.upd k ob).H i = if k = i then some ob else lk st.H i := fun i => by simp only [St.upd, lk_cons]
  have hS : ∀ c, x.S (st.upd k ob) κ c ↔ x.S st κ c := by
    intro c
    constructor
    · rintro (hs | ⟨i, ob', hi, hro', he⟩)
      · exact .inl hs
      · rw [hlk] at hi
        by_cases e : k = i
        · subst e; rw [← he]; exact Sat.ownedBlock hk0 hro
        · rw [if_neg e] at hi; exact .inr ⟨i, ob', hi, hro', he⟩
    · rintro (hs | ⟨i, ob', hi, hro', he⟩)
      · exact .inl hs
      · by_cases e : k = i
        · subst e; exact .inr ⟨k, ob, by rw [hlk, if_pos rfl], hrn, he⟩
        · exact .inr ⟨i, ob', by rw [hlk, if_neg e]; exact hi, hro', he⟩
  have hSe : x.S (st.upd k ob) κ = x.S st κ := funext fun c => propext (hS c)
  have hkeep : Keep (x.S st κ) w w' := hf.keep (fun b _ e => by rw [e]; exact Sat.ownedBlock hk0 hro)
  refine ⟨h.ds, h.nt, ?_, ?_, ?_, ?_, ?_, h.s0, h.pin⟩
  · intro i d hi
    rw [hSe]
    exact (h.T i d hi).mono hkeep (fun _ _ h => h)
  · intro i ob' hi
    rw [hSe]
    rw [hlk] at hi
    by_cases e : k = i
    · subst e; rw [if_pos rfl] at hi; cases hi; exact hob
    · rw [if_neg e] at hi
      obtain ⟨wf, cur, ee, hb', hs, hc⟩ := h.H i ob' hi
      refine ⟨wf, cur, ee, ?_, hs, fun i' j' d' hd' => ?_⟩
      · rw [hf.block _ (getElem?_lt hb') (fun he => e (h.inj _ _ _ _ hi hk0 he).symm)]; exact hb'
      · obtain ⟨v', g1, g2, g3⟩ := hc _ _ _ hd'
        exact ⟨v', g1, g2, g3.mono hkeep (fun _ _ h => h)⟩
  · intro i i' o1 o2 h1 h2 he
    rw [hlk] at h1 h2
    have g1 : ∃ o, lk st.H i = some o := by
      by_cases e : k = i
      · subst e; exact ⟨_, hk0⟩
      · rw [if_neg e] at h1; exact ⟨_, h1⟩
    have g2 : ∃ o, lk st.H i' = some o := by
      by_cases e : k = i'
      · subst e; exact ⟨_, hk0⟩
      · rw [if_neg e] at h2; exact ⟨_, h2⟩
    obtain ⟨o, ho⟩ := g1
    obtain ⟨o', ho'⟩ := g2
    exact h.inj _ _ _ _ ho ho' he
  · intro i ob' hi
    rw [hlk] at hi
    by_cases e : k = i
    · subst e; exact h.mine _ _ hk0
    · rw [if_neg e] at hi; exact h.mine _ _ hi
  · exact h.fr.trans' hf (fun i hi e => by
      rcases (h.mine k ob0 hk0).1 with hm | hm
      · omega
      · rw [e]; exact hm)

/-- What is forgotten. -/
def St.Sub (st st' : St) : Prop := st'.nt = st.nt ∧ (∀ i d, lk st'.T i = some d → lk st.T i = some d ∨ d = .undef) ∧ (∀ k ob, lk st'.H k = some ob → lk st.H k = some ob)

theorem Sat.sub {x : Fx} {st st' : St} {κ : Nat → Nat} {a : Act} {w : World} (h : Sat x st κ a w) (hs : st.Sub st') : Sat x st' κ a w := by
  obtain ⟨hn, hT, hH⟩ := hs
  have hS : ∀ c, c < w.heap.size → x.S st' κ c → x.S st κ c := by
    rintro c _ (hs | ⟨i, ob', hi, hro', he⟩)
    · exact .inl hs
    · exact .inr ⟨i, ob', hH _ _ hi, hro', he⟩
  refine ⟨h.ds, h.nt.trans hn.symm, ?_, ?_, ?_, ?_, h.fr, h.s0, fun k b hk => ⟨(h.pin k b hk).1, by rw [hn]; exact (h.pin k b hk).2⟩⟩
  · intro i d hi
    rcases hT i d hi with h1 | rfl
    · exact (h.T i d h1).mono (Keep.refl _ _) hS
    · exact .undef _
  · intro k ob hk
    obtain ⟨wf, cur, ee, hb', hs, hc⟩ := h.H k ob (hH _ _ hk)
    refine ⟨wf, cur, ee, hb', hs, fun i' j' d' hd' => ?_⟩
    obtain ⟨v', g1, g2, g3⟩ := hc _ _ _ hd'
    exact ⟨v', g1, g2, g3.mono (Keep.refl _ _) hS⟩
  · exact fun i i' o1 o2 h1 h2 he => h.inj _ _ _ _ (hH _ _ h1) (hH _ _ h2) he
  · exact fun i ob hi => h.mine _ _ (hH _ _ hi)

end Go.Dl
set_option linter.unusedVariables false
set_option linter.unusedSimpArgs false
namespace Go.Dl

def pvOf : Value → Option PV
  | .int k n => some (.int k n)
  | .bool b => some (.bool b)
  | .string s => some (.str s.data.toList)
  | .pointer none => some .nilptr
  | .nilFunc => some .nilfn
  | .nilIface => some .niface
  | .slice none 0 0 => some (.sl (some true) 0 [] [])
  | _ => none
def opd : Operand → DOpd
  | .tmp t => .t t
  | .const v => match pvOf v with | some p => .c p | none => .bad
  | .func f => .c (.fn (.func f) [] [])
  | .global _ => .bad

def ldn (P : Program) (t : Nat) : Option (Option Nat) :=
  match P.underlying t, P.info? t with
  | some d, some i => if d.isRow then some (some i.size) else some none
  | _, _ => none
def zeroOf (P : Program) (t : Nat) : Option (List PV) :=
  match P.info? t with
  | some i => match i.zero with
    | some z => z.cells.toList.mapM pvOf
    | none => none
  | none => none
def sizeT (P : Program) (t : Nat) : Option Nat := (P.info? t).map (·.size)

/-- a struct type whose fields are all whole numbers, bools and texts: their kinds -/
def flatKs (P : Program) : Nat → List Field → Option (List EK)
  | _, [] => some []
  | i, f :: r => if f.offset = i ∧ f.name ≠ "_" then
      match P.underlying f.type with
      | some (.int _) => (flatKs P (i + 1) r).map (.int :: ·)
      | some .bool => (flatKs P (i + 1) r).map (.bool :: ·)
      | some .string => (flatKs P (i + 1) r).map (.str :: ·)
      | _ => none
    else none
def flatEq (P : Program) (t : Nat) : Option (List EK) :=
  match P.underlying t with
  | some (.struct fs) => if P.stoodInHeld t = false ∧ P.eqGuardType P.depth t = false then flatKs P 0 fs.toList else none
  | _ => none

def compOp (P : Program) : Op → DOp
  | .move x => .mv (opd x)
  | .assign x => .mv (opd x)
  | .pick c a b => .pick (opd c) (opd a) (opd b)
  | .binOp op t x y _ =>
    match P.underlying t with
    | some (.struct _) => match flatEq P t with
      | some ks => (match op with | .eql => .eqs false ks (opd x) (opd y) | .neq => .eqs true ks (opd x) (opd y) | _ => .bad)
      | none => .bad
    | some (.slice _) => match y with
      | .const (.slice none 0 0) => (match op with | .eql => .isnil false (opd x) | .neq => .isnil true (opd x) | _ => .bad)
      | _ => .bad
    | some (.int _) => .bin op (opd x) (opd y)
    | some .string => .bin op (opd x) (opd y)
    | some .bool => (match op with | .eql => .beq false (opd x) (opd y) | .neq => .beq true (opd x) (opd y) | _ => .bad)
    | _ => .bad
  | .unOp op _ x => .un op (opd x)
  | .convert s d x =>
    match P.underlying s, P.underlying d with
    | some (.int _), some (.int k) => .cvi k (opd x)
    | some .string, some .string => .cvss (opd x)
    | some (.slice e), some .string => match P.underlying e with
      | some (.int .u8) => .cvbs (opd x)
      | _ => .bad
    | _, _ => .bad
  | .nilCheck x => .nilchk (opd x)
  | .fieldAddr s x f =>
    match P.underlying s with
    | some (.struct fs) => match fs[f]? with
      | some fd => match sizeT P fd.type with
        | some n => if n = 0 then .bad else .faddr fd.offset (opd x)
        | none => .bad
      | none => .bad
    | _ => .bad
  | .field s x f =>
    match P.underlying s with
    | some (.struct fs) => match fs[f]? with
      | some fd => match ldn P fd.type with
        | some n => .fld fd.offset n (opd x)
        | none => .bad
      | none => .bad
    | _ => .bad
  | .indexAddr t x i =>
    match P.underlying t with
    | some (.slice e) => match sizeT P e with
      | some n => .iaddr n (opd x) (opd i)
      | none => .bad
    | _ => .bad
  | .index t x i =>
    match P.underlying t with
    | some .string => .idx (opd x) (opd i)
    | _ => .bad
  | .slice t x lo hi mx =>
    match P.underlying t with
    | some .string => .slc 0 (opd x) (lo.map opd) (hi.map opd) (mx.map opd)
    | some (.slice e) => match sizeT P e with
      | some n => if n = 0 then .bad else .slc n (opd x) (lo.map opd) (hi.map opd) (mx.map opd)
      | none => .bad
    | _ => .bad
  | .extract x i => .ext (opd x) i
  | .makeFunc f a b => .mkf f (a.toList.map opd) (b.toList.map opd)
  | .build t parts =>
    match P.underlying t, zeroOf P t with
    | some (.struct fs), some z =>
      match fs.toList.mapM (fun f => (P.info? f.type).map fun i => (f.offset, i.size)) with
      | some places => match parts.toList.mapM (fun p => (places[p.1]?).map fun q => (q.1, q.2, opd p.2)) with
        | some ps => .build z ps
        | none => .bad
      | none => .bad
    | _, _ => .bad
  | .load t x => match ldn P t with
    | some n => .ld n (opd x)
    | none => .bad
  | .alloc t => match zeroOf P t with
    | some z => .alloc z
    | none => .bad
  | .box t x => match sizeT P t with
    | some n => .box n (opd x)
    | none => .bad
  | .call c =>
    match c.callee with
    | .builtin .len => match c.argTypes.toList, c.args.toList with
      | t :: _, [x] => match P.underlying t with
        | some .string => .len true (opd x)
        | some (.slice _) => .len false (opd x)
        | _ => .bad
      | _, _ => .bad
    | .builtin .max => match c.args.toList with
      | [x, y] => .mx true (opd x) (opd y)
      | _ => .bad
    | .builtin .min => match c.args.toList with
      | [x, y] => .mx false (opd x) (opd y)
      | _ => .bad
    | .builtin .append => match c.argTypes.toList, c.args.toList with
      | [t, u], [x, y] => match P.underlying t with
        | some (.slice e) => match P.info? e, zeroOf P e with
          | some i, some z => if z.length = i.size then (match P.underlying u with
            | some (.slice _) => .app i.size i.bytes (opd x) (opd y)
            | some .string => .app i.size i.bytes (opd x) (opd y)
            | _ => .bad) else .bad
          | _, _ => .bad
        | _ => .bad
      | _, _ => .bad
    | .value (.func f) => match P.funcs[f]? with
      | some fn => if fn.name == "runtime.NumGoroutine" || fn.body.isNone then .bad else .call f (c.args.toList.map opd)
      | none => .bad
    | .value (.tmp x) => .callv (.t x) (c.args.toList.map opd)
    | _ => .bad
  | .buildSlice t n parts =>
    match P.underlying t with
    | some (.slice e) => match sizeT P e, zeroOf P e with
      | some s, some z => if z.length = s then .bsl s n z (parts.toList.map fun p => (p.1, opd p.2)) else .bad
      | _, _ => .bad
    | _ => .bad
  | .makeSlice t l c =>
    match P.underlying t with
    | some (.slice e) => match P.info? e, zeroOf P e with
      | some i, some z => if z.length = i.size then .mks i.size i.bytes z (opd l) (opd c) else .bad
      | _, _ => .bad
    | _ => .bad
  | .store t a x => match sizeT P t with
    | some n => .st n (opd a) (opd x)
    | none => .bad
  | _ => .bad

/-! ### what is read back -/

section
variable {w : World} {S : Nat → Prop} {κ : Nat → Nat}

theorem pvOf_rel {v : Value} {p : PV} (h : pvOf v = some p) : PRel w S p v := by
  unfold pvOf at h
  split at h <;> first
    | (cases h; first | exact .int _ _ | exact .bool _ | exact .nilptr | exact .nilfn | exact .niface | exact .slnil _ _ (by simp))
    | (cases h; rename_i s; have : PRel w S (.str s.data.toList) (.string ⟨s.data.toList.toArray⟩) := .str _; simpa using this)
    | cases h

theorem DRel.int_inv {k : IntKind} {n : Int} {v : Value} (h : DRel w S κ (.p (.int k n)) v) : v = .int k n := by cases h with | p _ _ h => cases h; rfl
theorem DRel.bool_inv {b : Bool} {v : Value} (h : DRel w S κ (.p (.bool b)) v) : v = .bool b := by cases h with | p _ _ h => cases h; rfl
theorem DRel.str_inv {s : List UInt8} {v : Value} (h : DRel w S κ (.p (.str s)) v) : v = .string ⟨s.toArray⟩ := by cases h with | p _ _ h => cases h; rfl

theorem Sat.ev {x : Fx} {st : St} {a : Act} (h : Sat x st κ a w) (o : Operand) : DRel w (x.S st κ) κ (st.ev (opd o)) (a.eval o) := by
  cases o with
  | tmp t => exact h.get t
  | const v =>
    simp only [opd]
    cases hp : pvOf v with
    | none => exact .undef _
    | some p => exact .p _ _ (pvOf_rel hp)
  | func f => exact .p _ _ (.fn _ [] [] [] [] rfl rfl (fun i c v hc => by simp at hc) (fun i c v hc => by simp at hc))
  | global g => exact .undef _

theorem Sat.evs {x : Fx} {st : St} {a : Act} (h : Sat x st κ a w) (l : List Operand) (i : Nat) (c : DV) (v : Value) (hc : ((l.map opd).map st.ev)[i]? = some c) (hv : (l.map a.eval)[i]? = some v) : DRel w (x.S st κ) κ c v := by
  simp only [List.getElem?_map, Option.map_map, Option.map_eq_some_iff] at hc hv
  obtain ⟨o, ho, rfl⟩ := hc
  obtain ⟨o', ho', rfl⟩ := hv
  rw [ho] at ho'
  cases ho'
  exact h.ev o

theorem pures_rel : ∀ {cs : List DV} {ps : List PV}, pures cs = some ps → ∀ {vs : List Value}, (∀ (i : Nat) (c : DV) (v : Value), cs[i]? = some c → vs[i]? = some v → DRel w S κ c v) →
    ps.length = cs.length ∧ ∀ (i : Nat) (c : PV) (v : Value), ps[i]? = some c → vs[i]? = some v → PRel w S c v
  | [], ps, h, vs, hr => by simp only [pures, Option.some.injEq] at h; subst h; exact ⟨rfl, fun i c v hc => by simp at hc⟩
  | .p q :: r, ps, h, vs, hr => by
    simp only [pures, Option.map_eq_some_iff] at h
    obtain ⟨qs, hq, rfl⟩ := h
    obtain ⟨hl, hh⟩ := pures_rel hq (vs := vs.tail) (fun i c v hc hv => hr (i + 1) c v (by simpa using hc) (by simpa using hv))
    refine ⟨by simp [hl], fun i c v hc hv => ?_⟩
    cases i with
    | zero =>
      simp only [List.getElem?_cons_zero, Option.some.injEq] at hc
      subst hc
      cases hr 0 (.p q) v (by simp) hv with | p _ _ h => exact h
    | succ i => exact hh i c v (by simpa using hc) (by simpa using hv)
  | .undef :: r, ps, h, vs, hr => by simp [pures] at h
  | .own .. :: r, ps, h, vs, hr => by simp [pures] at h
  | .ptr .. :: r, ps, h, vs, hr => by simp [pures] at h
  | .agg .. :: r, ps, h, vs, hr => by simp [pures] at h
  | .tup .. :: r, ps, h, vs, hr => by simp [pures] at h
  | .fn .. :: r, ps, h, vs, hr => by simp [pures] at h

theorem mkAgg_rel {cs : List DV} {vs : List Value} (hl : cs.length = vs.length) (hr : ∀ (i : Nat) (c : DV) (v : Value), cs[i]? = some c → vs[i]? = some v → DRel w S κ c v) : DRel w S κ (mkAgg cs) (.agg vs.toArray) := by
  unfold mkAgg
  cases hp : pures cs with
  | none => exact .agg cs vs hl hr
  | some ps =>
    obtain ⟨h1, h2⟩ := pures_rel hp hr
    exact .p _ _ (.agg ps vs (by rw [h1, hl]) h2)

/-- the cells of a value -/
theorem cells_rel {d : DV} {v : Value} (h : DRel w S κ d v) (hu : d.cells.all DV.leaf = true) :
    d.cells.length = v.cells.size ∧ (∀ (i : Nat) (c : DV) (u : Value), d.cells[i]? = some c → v.cells[i]? = some u → DRel w S κ c u) := by
  cases h with
  | undef v => simp [DV.cells, DV.leaf] at hu
  | p q x h =>
    cases h with
    | agg cs vs hl hr =>
      simp only [DV.cells, Value.cells]
      refine ⟨by simp [hl], fun i c u hc hv => ?_⟩
      simp only [List.getElem?_map, Option.map_eq_some_iff] at hc
      obtain ⟨p, hp, rfl⟩ := hc
      exact .p _ _ (hr i p u hp (by simpa using hv))
    | tup cs vs hl hr => simp [DV.cells, DV.leaf, PV.leaf] at hu
    | int k n => exact ⟨rfl, fun i c u hc hv => by cases i <;> simp [DV.cells, Value.cells] at hc hv; subst hc hv; exact .p _ _ (.int _ _)⟩
    | bool b => exact ⟨rfl, fun i c u hc hv => by cases i <;> simp [DV.cells, Value.cells] at hc hv; subst hc hv; exact .p _ _ (.bool _)⟩
    | str s => exact ⟨rfl, fun i c u hc hv => by cases i <;> simp [DV.cells, Value.cells] at hc hv; subst hc hv; exact .p _ _ (.str _)⟩
    | nilptr => exact ⟨rfl, fun i c u hc hv => by cases i <;> simp [DV.cells, Value.cells] at hc hv; subst hc hv; exact .p _ _ .nilptr⟩
    | nilfn => exact ⟨rfl, fun i c u hc hv => by cases i <;> simp [DV.cells, Value.cells] at hc hv; subst hc hv; exact .p _ _ .nilfn⟩
    | niface => exact ⟨rfl, fun i c u hc hv => by cases i <;> simp [DV.cells, Value.cells] at hc hv; subst hc hv; exact .p _ _ .niface⟩
    | slnil o sz ho => exact ⟨rfl, fun i c u hc hv => by cases i <;> simp [DV.cells, Value.cells] at hc hv; subst hc hv; exact .p _ _ (.slnil _ _ ho)⟩
    | slz o sz ho a => exact ⟨rfl, fun i c u hc hv => by cases i <;> simp [DV.cells, Value.cells] at hc hv; subst hc hv; exact .p _ _ (.slz _ _ ho _)⟩
    | sl o ho sz rows spare b off cap f h1 h2 h3 h4 h5 h6 h7 => exact ⟨rfl, fun i c u hc hv => by cases i <;> simp [DV.cells, Value.cells] at hc hv; subst hc hv; exact .p _ _ (.sl o ho _ _ _ _ _ _ f h1 h2 h3 h4 h5 h6 h7)⟩
    | pp sz rows n o b off f h1 h2 h3 h4 h5 => exact ⟨rfl, fun i c u hc hv => by cases i <;> simp [DV.cells, Value.cells] at hc hv; subst hc hv; exact .p _ _ (.pp _ _ _ _ _ _ f h1 h2 h3 h4 h5)⟩
    | fn g fs cs us vs h1 h2 h3 h4 => exact ⟨rfl, fun i c u hc hv => by cases i <;> simp [DV.cells, Value.cells] at hc hv; subst hc hv; exact .p _ _ (.fn _ _ _ _ _ h1 h2 h3 h4)⟩
  | own k sz start len room cap o h1 h2 h3 h4 cur e fr hb hfit => exact ⟨rfl, fun i c u hc hv => by cases i <;> simp [DV.cells, Value.cells] at hc hv; subst hc hv; exact .own k sz start len room cap o h1 h2 h3 h4 cur e fr hb hfit⟩
  | ownnil k sz => exact ⟨rfl, fun i c u hc hv => by cases i <;> simp [DV.cells, Value.cells] at hc hv; subst hc hv; exact .ownnil _ _⟩
  | ptr k sz i off => exact ⟨rfl, fun i c u hc hv => by cases i <;> simp [DV.cells, Value.cells] at hc hv; subst hc hv; exact .ptr _ _ _ _⟩
  | agg cs vs hl hr =>
    simp only [DV.cells, Value.cells]
    exact ⟨by simp [hl], fun i c u hc hv => hr i c u hc (by simpa using hv)⟩
  | tup cs vs hl hr => simp [DV.cells, DV.leaf] at hu
  | fn g fs cs us vs h1 h2 h3 h4 => exact ⟨rfl, fun i c u hc hv => by cases i <;> simp [DV.cells, Value.cells] at hc hv; subst hc hv; exact .fn _ _ _ _ _ h1 h2 h3 h4⟩

theorem leaf_one {d : DV} {v : Value} (h : DRel w S κ d v) (hl : d.leaf = true) : v.oneCell' = true := by
  cases h with
  | undef v => simp [DV.leaf] at hl
  | p q x h => cases h <;> first | rfl | simp [DV.leaf, PV.leaf] at hl
  | own => rfl
  | ownnil => rfl
  | ptr => rfl
  | agg => simp [DV.leaf] at hl
  | tup => simp [DV.leaf] at hl
  | fn => rfl
end
end Go.Dl
