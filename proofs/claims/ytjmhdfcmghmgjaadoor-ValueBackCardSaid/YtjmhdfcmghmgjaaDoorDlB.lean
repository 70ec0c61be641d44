/- Symbolic states; operations with their types resolved; what an operation does to a symbolic state. -/
import Derived.Test.YtjmhdfcmghmgjaaDoorDlA
set_option linter.unusedVariables false
set_option linter.unusedSimpArgs false
namespace Go.Dl

def lk {α : Type} : List (Nat × α) → Nat → Option α
  | [], _ => none
  | (k, v) :: r, i => if k = i then some v else lk r i

structure St where
  nt : Nat
  T : List (Nat × DV)
  H : List (Nat × Ob)

def St.get (st : St) (i : Nat) : DV := match lk st.T i with | some d => d | none => .undef
def St.set (st : St) (i : Nat) (d : DV) : St := { st with T := (i, d) :: st.T }

mutual
def DV.refs (k : Nat) : DV → Bool
  | .undef => false
  | .p _ => false
  | .own k' _ _ _ _ => k' == k
  | .ptr k' _ _ _ => k' == k
  | .agg cs => DV.refsL k cs
  | .tup cs => DV.refsL k cs
  | .fn _ a b => DV.refsL k a || DV.refsL k b
def DV.refsL (k : Nat) : List DV → Bool
  | [] => false
  | d :: r => DV.refs k d || DV.refsL k r
end

def DV.purge (k : Nat) (d : DV) : DV := if d.refs k then .undef else d
def purgeT (k : Nat) : List (Nat × DV) → List (Nat × DV)
  | [] => []
  | (i, d) :: r => (i, d.purge k) :: purgeT k r
def Rows.purge (k : Nat) : Rows → Rows
  | .p r => .p r
  | .m r => .m (r.map (·.map (DV.purge k)))
def purgeH (k : Nat) : List (Nat × Ob) → List (Nat × Ob)
  | [] => []
  | (i, ob) :: r => if i = k then purgeH k r else (i, { ob with rows := ob.rows.purge k }) :: purgeH k r
def St.drop (st : St) (k : Nat) : St := { st with T := purgeT k st.T, H := purgeH k st.H }
def St.new (st : St) (k : Nat) (ob : Ob) (d : DV) : St := { nt := st.nt, T := (k, d) :: purgeT k st.T, H := (k, ob) :: purgeH k st.H }
def St.upd (st : St) (k : Nat) (ob : Ob) : St := { st with H := (k, ob) :: st.H }

inductive DOpd where
  | t (i : Nat)
  | c (v : PV)
  | bad
  deriving Inhabited
def St.ev (st : St) : DOpd → DV
  | .t i => st.get i
  | .c v => .p v
  | .bad => .undef

inductive EK where
  | int | bool | str
  deriving DecidableEq, Inhabited

inductive DOp where
  | mv (x : DOpd)
  | pick (c a b : DOpd)
  | bin (op : BinOp) (x y : DOpd)
  | isnil (neg : Bool) (x : DOpd)
  | beq (neg : Bool) (x y : DOpd)
  | eqs (neg : Bool) (ks : List EK) (x y : DOpd)
  | un (op : UnOp) (x : DOpd)
  | cvi (k : IntKind) (x : DOpd)
  | cvbs (x : DOpd)
  | cvss (x : DOpd)
  | nilchk (x : DOpd)
  | faddr (off : Nat) (x : DOpd)
  | fld (off : Nat) (n : Option Nat) (x : DOpd)
  | iaddr (sz : Nat) (x i : DOpd)
  | idx (x i : DOpd)
  | slc (sz : Nat) (x : DOpd) (lo hi mx : Option DOpd)
  | ext (x : DOpd) (i : Nat)
  | len (isStr : Bool) (x : DOpd)
  | mx (big : Bool) (x y : DOpd)
  | mkf (f : Fn) (first captured : List DOpd)
  | build (zero : List PV) (parts : List (Nat × Nat × DOpd))
  | ld (n : Option Nat) (x : DOpd)
  | alloc (zero : List PV)
  | box (n : Nat) (x : DOpd)
  | bsl (sz n : Nat) (zero : List PV) (parts : List (Nat × DOpd))
  | mks (sz bytes : Nat) (zero : List PV) (l c : DOpd)
  | st (n : Nat) (a x : DOpd)
  | app (sz bytes : Nat) (x y : DOpd)
  | call (f : Nat) (args : List DOpd)
  | callv (x : DOpd) (args : List DOpd)
  | bad
  deriving Inhabited

structure DOper where
  dst : Option Nat
  op : DOp
  g : Option (Nat × Bool)
  deriving Inhabited

inductive DCode where
  | skip
  | reg (ops : List DOper)
  | draw (ops : List (DOper × List Nat × List Nat))
  | seq (a b : DCode)
  | cond (c : DOpd) (x y : DCode)
  | block (id : Nat) (b : DCode)
  | loop (b : DCode)
  | range (f : DOpd) (ps : List Nat) (asg body : DCode)
  | exit (id : Nat)
  | scope (b : DCode)
  | label
  | ret
  | bad
  deriving Inhabited

/-! what the operations with a value alone come to -/

def evBin (op : BinOp) : PV → PV → Option PV
  | .int k a, .int k' b =>
    match op with
    | .shl => if b < 0 then none else some (.int k (k.wrap (a * 2 ^ (min b.toNat k.bits))))
    | .shr => if b < 0 then none else some (.int k (a.fdiv (2 ^ (min b.toNat k.bits))))
    | _ => if k = k' then
      match op with
      | .add => some (.int k (k.wrap (a + b)))
      | .sub => some (.int k (k.wrap (a - b)))
      | .mul => some (.int k (k.wrap (a * b)))
      | .quo => if b = 0 then none else some (.int k (k.wrap (a.tdiv b)))
      | .rem => if b = 0 then none else some (.int k (a.tmod b))
      | .and => some (.int k (k.wrap (BitVec.ofInt k.bits a &&& BitVec.ofInt k.bits b).toNat))
      | .or => some (.int k (k.wrap (BitVec.ofInt k.bits a ||| BitVec.ofInt k.bits b).toNat))
      | .xor => some (.int k (k.wrap (BitVec.ofInt k.bits a ^^^ BitVec.ofInt k.bits b).toNat))
      | .andNot => some (.int k (k.wrap (BitVec.ofInt k.bits a &&& ~~~BitVec.ofInt k.bits b).toNat))
      | .eql => some (.bool (a == b))
      | .neq => some (.bool (a != b))
      | .lss => some (.bool (a < b))
      | .leq => some (.bool (a ≤ b))
      | .gtr => some (.bool (a > b))
      | .geq => some (.bool (a ≥ b))
      | _ => none
      else none
  | .str a, .str b =>
    match op with
    | .add => if a.length + b.length ≤ 9223372036854775807 then some (.str (a ++ b)) else none
    | .eql => some (.bool (a == b))
    | .neq => some (.bool !(a == b))
    | .lss => some (.bool (Op.bytesLess a b))
    | .leq => some (.bool (Op.bytesLess a b || a == b))
    | .gtr => some (.bool !(Op.bytesLess a b || a == b))
    | .geq => some (.bool !(Op.bytesLess a b))
    | _ => none
  | _, _ => none

/-- equality of aggregates whose cells are whole numbers, bools and texts -/
def eqCells : List EK → List PV → List PV → Option Bool
  | [], [], [] => some true
  | .int :: ks, .int k a :: x, .int k' b :: y => if k = k' then (eqCells ks x y).map (a == b && ·) else none
  | .bool :: ks, .bool a :: x, .bool b :: y => (eqCells ks x y).map (a == b && ·)
  | .str :: ks, .str a :: x, .str b :: y => (eqCells ks x y).map (a == b && ·)
  | _, _, _ => none

def pures : List DV → Option (List PV)
  | [] => some []
  | .p v :: r => (pures r).map (v :: ·)
  | _ :: _ => none
def mkAgg (cs : List DV) : DV := match pures cs with | some ps => .p (.agg ps) | none => .agg cs
def mkTup (cs : List DV) : DV := match pures cs with | some ps => .p (.tup ps) | none => .tup cs
def DV.cells : DV → List DV
  | .p (.agg cs) => cs.map .p
  | .agg cs => cs
  | d => [d]

def asNat (d : DV) : Option Nat := match d with | .p (.int _ n) => if 0 ≤ n then some n.toNat else none | _ => none

def bnd (top : Nat) (d : DV) : Option Nat := match asNat d with | some n => if n ≤ top then some n else none | none => none
def bndO (top def_ : Nat) : Option DV → Option Nat
  | none => some def_
  | some d => bnd top d
/-- bounds of a cut: l, h, m -/
def cutB (len cap : Nat) (lo hi mx : Option DV) : Option (Nat × Nat × Nat) :=
  match bndO cap cap mx with
  | none => none
  | some m => match (if hi.isNone && mx.isSome then none else bndO m len hi) with
    | none => none
    | some h => match bndO h 0 lo with
      | none => none
      | some l => some (l, h, m)

def ldRow {α : Type} (n : Option Nat) (r : List α) (off : Nat) (one : α → DV) (many : List α → DV) : Option DV :=
  match n with
  | none => (r[off]?).map one
  | some n => if off + n ≤ r.length then some (many ((r.drop off).take n)) else none

def PV.leaf : PV → Bool
  | .agg _ => false
  | .tup _ => false
  | _ => true
def DV.leaf : DV → Bool
  | .p v => v.leaf
  | .own .. => true
  | .ptr .. => true
  | .fn .. => true
  | _ => false
def fillRow (z : List DV) : List (Nat × Nat × DV) → Option (List DV)
  | [] => some z
  | (off, n, d) :: r => if d.cells.length = n ∧ off + n ≤ z.length ∧ d.cells.all DV.leaf = true then fillRow (z.take off ++ d.cells ++ z.drop (off + n)) r else none

def Rows.take (n : Nat) : Rows → Rows
  | .p a => .p (a.take n)
  | .m a => .m (a.take n)
def Rows.drop (n : Nat) : Rows → Rows
  | .p a => .p (a.drop n)
  | .m a => .m (a.drop n)
/-- a source's rows -/
def srcRows (st : St) (sz : Nat) : DV → Option Rows
  | .p (.sl b sz' rows _) => if sz' = sz ∨ b = some true then some (.p rows) else none
  | .own k sz' s len _ => if sz' = sz then match lk st.H k with
    | some ob => if ob.sz = sz ∧ s + len ≤ ob.rows.len then some ((ob.rows.drop s).take len) else none
    | none => none
    else none
  | .p (.str s) => if sz = 1 then some (.p (s.map fun b => [.int .u8 b.toNat])) else none
  | _ => none

def byteOf : List PV → Option UInt8
  | [.int .u8 n] => some (UInt8.ofNat n.toNat)
  | _ => none
def bytesOf : List (List PV) → Option (List UInt8)
  | [] => some []
  | r :: rs => match byteOf r, bytesOf rs with
    | some b, some bs => some (b :: bs)
    | _, _ => none

/-- the value of an operation that leaves memory alone -/
def evOp (st : St) : DOp → Option DV
  | .mv x => some (st.ev x)
  | .pick c a b => match st.ev c with
    | .p (.bool t) => some (if t then st.ev a else st.ev b)
    | _ => none
  | .bin op x y => match st.ev x, st.ev y with
    | .p a, .p b => (evBin op a b).map .p
    | _, _ => none
  | .isnil neg x => match st.ev x with
    | .p (.sl (some b) _ _ _) => some (.p (.bool (b != neg)))
    | _ => none
  | .beq neg x y => match st.ev x, st.ev y with
    | .p (.bool a), .p (.bool b) => some (.p (.bool ((a == b) != neg)))
    | _, _ => none
  | .eqs neg ks x y => match st.ev x, st.ev y with
    | .p (.agg a), .p (.agg b) => (eqCells ks a b).map fun t => .p (.bool (t != neg))
    | _, _ => none
  | .un op x => match st.ev x with
    | .p (.bool b) => if op = .not then some (.p (.bool !b)) else none
    | .p (.int k n) => if op = .neg then some (.p (.int k (k.wrap (0 - n)))) else none
    | _ => none
  | .cvi k x => match st.ev x with
    | .p (.int _ n) => some (.p (.int k (k.wrap n)))
    | _ => none
  | .cvss x => match st.ev x with
    | .p (.str s) => some (.p (.str s))
    | _ => none
  | .cvbs x => match st.ev x with
    | .p (.str _) => none
    | d => match srcRows st 1 d with
      | some (.p rows) => (bytesOf rows).map fun b => .p (.str b)
      | _ => none
  | .nilchk x => match st.ev x with
    | .ptr k a b c => some (.ptr k a b c)
    | .p (.pp a b c d) => some (.p (.pp a b c d))
    | .p (.fn (.func f) a b) => some (.p (.fn (.func f) a b))
    | .fn (.func f) a b => some (.fn (.func f) a b)
    | _ => none
  | .faddr o x => match st.ev x with
    | .ptr k sz i off => some (.ptr k sz i (off + o))
    | .p (.pp sz rows i off) => some (.p (.pp sz rows i (off + o)))
    | _ => none
  | .fld o n x => match st.ev x with
    | .p (.agg cs) => ldRow n cs o .p (fun l => .p (.agg l))
    | .agg cs => ldRow n cs o id mkAgg
    | _ => none
  | .iaddr sz x i => match st.ev x, st.ev i with
    | .p (.sl _ sz' rows sp), .p (.int _ n) => if sz' = sz ∧ 0 ≤ n ∧ n < rows.length then some (.p (.pp sz (rows ++ sp) n.toNat 0)) else none
    | .own k sz' s len _, .p (.int _ n) => if sz' = sz ∧ 0 ≤ n ∧ n < len then some (.ptr k sz (s + n.toNat) 0) else none
    | _, _ => none
  | .idx x i => match st.ev x, st.ev i with
    | .p (.str s), .p (.int _ n) => if 0 ≤ n then (s[n.toNat]?).map fun b => .p (.int .u8 b.toNat) else none
    | _, _ => none
  | .slc sz x lo hi mx =>
    match st.ev x with
    | .p (.str s) => if mx.isSome || sz != 0 then none else match cutB s.length s.length (lo.map st.ev) (hi.map st.ev) none with
      | some (l, h, _) => some (.p (.str ((s.drop l).take (h - l))))
      | none => none
    | .p (.sl b sz' rows sp) => if sz' = sz ∧ sz ≠ 0 then match cutB rows.length (rows.length + sp.length) (lo.map st.ev) (hi.map st.ev) (mx.map st.ev) with
      | some (l, h, m) => some (.p (.sl b sz (((rows ++ sp).drop l).take (h - l)) (((rows ++ sp).drop h).take (m - h))))
      | none => none
      else none
    | .own k sz' s len room => if sz' = sz ∧ sz ≠ 0 then match cutB len room (lo.map st.ev) (hi.map st.ev) (mx.map st.ev) with
      | some (l, h, m) => some (.own k sz (s + l) (h - l) (m - l))
      | none => none
      else none
    | _ => none
  | .ext x i => match st.ev x with
    | .p (.tup vs) => (vs[i]?).map .p
    | .tup vs => vs[i]?
    | _ => none
  | .len isStr x => match st.ev x with
    | .p (.str s) => if isStr then some (.p (.int .i64 s.length)) else none
    | .p (.sl _ _ rows _) => if isStr then none else some (.p (.int .i64 rows.length))
    | .own _ _ _ len _ => if isStr then none else some (.p (.int .i64 len))
    | _ => none
  | .mx big x y => match st.ev x, st.ev y with
    | .p (.int k a), .p (.int k' b) => if k = k' then some (.p (.int k (if big then max a b else min a b))) else none
    | _, _ => none
  | .mkf f a b => match pures (a.map st.ev), pures (b.map st.ev) with
    | some u, some v => some (.p (.fn f u v))
    | _, _ => some (.fn f (a.map st.ev) (b.map st.ev))
  | .build z ps => match fillRow (z.map .p) (ps.map fun p => (p.1, p.2.1, st.ev p.2.2)) with
    | some cs => some (mkAgg cs)
    | none => none
  | .ld n x => match st.ev x with
    | .p (.pp _ rows i off) => match rows[i]? with
      | some r => ldRow n r off .p (fun l => .p (.agg l))
      | none => none
    | .ptr k sz i off => match lk st.H k with
      | some ob => if ob.sz = sz then match ob.rows with
        | .p rows => match rows[i]? with
          | some r => ldRow n r off .p (fun l => .p (.agg l))
          | none => none
        | .m rows => match rows[i]? with
          | some r => ldRow n r off id mkAgg
          | none => none
        else none
      | none => none
    | _ => none
  | _ => none

def repl {α : Type} : Nat → List α → List α
  | 0, _ => []
  | n + 1, z => z ++ repl n z
def chunks {α : Type} : Nat → Nat → List α → List (List α)
  | 0, _, _ => []
  | n + 1, sz, l => l.take sz :: chunks n sz (l.drop sz)
def mapPures : List (List DV) → Option (List (List PV))
  | [] => some []
  | r :: rs => match pures r, mapPures rs with
    | some p, some ps => some (p :: ps)
    | _, _ => none
def mkRows (rs : List (List DV)) : Rows :=
  match mapPures rs with
  | some ps => .p ps
  | none => .m rs
def DV.nrm0 : DV → DV
  | .p v => .p v.norm0
  | d => d
def Rows.nrm : Rows → Rows
  | .p r => .p (r.map (·.map PV.norm0))
  | .m r => .m (r.map (·.map DV.nrm0))
def Rows.toM : Rows → List (List DV)
  | .p r => r.map (·.map .p)
  | .m r => r
def Rows.app : Rows → Rows → Rows
  | .p a, .p b => .p (a ++ b)
  | a, b => .m (a.toM ++ b.toM)
def splice {α : Type} (r : List α) (off : Nat) (cs : List α) : List α :=
  match cs with
  | [c] => r.set off c
  | _ => r.take off ++ cs ++ r.drop (off + cs.length)

/-- an operation that is no call of a function: the state behind it -/
def stepD (st : St) (dst : Option Nat) : DOp → Option St
  | .alloc z => match dst with
    | some d => if z.all PV.leaf then some (st.new d ⟨false, z.length, .p [z]⟩ (.ptr d z.length 0 0)) else none
    | none => none
  | .box n x => match dst with
    | some d => let cs := (st.ev x).cells
      if cs.length = n ∧ cs.all DV.leaf then match pures cs with
        | some ps => some (st.new d ⟨false, n, .p [ps]⟩ (.ptr d n 0 0))
        | none => if DV.refsL d cs then none else some (st.new d ⟨false, n, .m [cs]⟩ (.ptr d n 0 0))
      else none
    | none => none
  | .bsl sz n z ps => match dst with
    | some d => match fillRow (repl n (z.map .p)) (ps.map fun p => (p.1 * sz, sz, st.ev p.2)) with
      | some flat => if z.length = sz ∧ flat.all DV.leaf ∧ DV.refsL d flat = false ∧ 0 < sz ∧ n * sz ≤ 16777216 then some (st.new d ⟨false, sz, (mkRows (chunks n sz flat)).nrm⟩ (.own d sz 0 n n)) else none
      | none => none
    | none => none
  | .mks sz bytes z l c => match dst with
    | some d => match asNat (st.ev l), asNat (st.ev c) with
      | some l, some c => if l ≤ c ∧ c * bytes ≤ 281474976710656 ∧ c ≤ 9223372036854775807 ∧ z.length = sz ∧ 0 < sz ∧ z.all PV.leaf then
          some (st.new d ⟨false, sz, .p (List.replicate c z)⟩ (.own d sz 0 l c)) else none
      | _, _ => none
    | none => none
  | .st n a x => match dst, st.ev a with
    | none, .ptr k sz i off => match lk st.H k with
      | some ob => let cs := (st.ev x).cells
        if ob.ro = false ∧ ob.sz = sz ∧ cs.length = n ∧ cs.all DV.leaf then
          match ob.rows, pures cs with
          | .p rows, some ps => match rows[i]? with
            | some r => if off + n ≤ r.length then some (st.upd k { ob with rows := .p (rows.set i (splice r off ps)) }) else none
            | none => none
          | rows, _ => match rows.toM[i]? with
            | some r => if off + n ≤ r.length then some (st.upd k { ob with rows := .m (rows.toM.set i (splice r off cs)) }) else none
            | none => none
        else none
      | none => none
    | _, _ => none
  | .app sz bytes x y => match dst with
    | some d => match srcRows st sz (st.ev y) with
      | some src => if 0 < sz then match st.ev x with
        | .p (.sl (some true) _ _ _) => if src.len = 0 then some (st.set d (.p (.sl (some true) sz [] []))) else
            if src.len * bytes ≤ 140737488355328 ∧ src.len ≤ maxLen then some (st.new d ⟨false, sz, src.purge d⟩ (.own d sz 0 src.len src.len)) else none
        | .own k sz' 0 len _ => if sz' = sz then match lk st.H k with
          | some ob => if ob.ro = false ∧ ob.sz = sz ∧ len ≤ ob.rows.len ∧ (len + src.len) * bytes ≤ 140737488355328 ∧ len + src.len ≤ maxLen then
              some ((st.drop k).new d ⟨false, sz, (((ob.rows.take len).app src).purge k).purge d⟩ (.own d sz 0 (len + src.len) (len + src.len))) else none
          | none => none
          else none
        | _ => none
        else none
      | none => none
    | none => none
  | o => match dst with
    | some d => (evOp st o).map (st.set d)
    | none => none

def stepGd (st : St) (o : DOper) : Option St :=
  match o.g with
  | none => stepD st o.dst o.op
  | some (i, want) => match st.get i with
    | .p (.bool b) => if b = want then stepD st o.dst o.op else match o.dst with
      | some d => some (st.set d (.p (.tup [])))
      | none => some st
    | .p (.tup []) => match o.dst with
      | some d => some (st.set d (.p (.tup [])))
      | none => some st
    | _ => none

end Go.Dl
