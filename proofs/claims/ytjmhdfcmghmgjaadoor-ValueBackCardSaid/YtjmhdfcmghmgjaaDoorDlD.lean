/- From the machine's code to code with resolved types; the operations with a value alone do what is said of them. -/
import Derived.Test.YtjmhdfcmghmgjaaDoorDlC
import Derived.Laws.StructEq
import Derived.Laws.Tables
import Derived.Deep.MidRow
import Derived.Deep.AppendSrc
import Derived.CallsIn
set_option linter.unusedVariables false
set_option linter.unusedSimpArgs false
namespace Go.Dl

def pvOf : Value → Option PV
  | .int k n => some (.int k n)
  | .bool b => some (.bool b)
  | .string s => some (.str s.data.toList)
  | .pointer none => some .nilptr
  | .nilFunc => some .nilfn
  | .nilIface => some .niface
  | .slice none 0 0 => some (.sl (some true) 0 [] [])
  | _ => none
def opd : Operand → DOpd
  | .tmp t => .t t
  | .const v => match pvOf v with | some p => .c p | none => .bad
  | .func f => .c (.fn (.func f) [] [])
  | .global _ => .bad

def ldn (P : Program) (t : Nat) : Option (Option Nat) :=
  match P.underlying t, P.info? t with
  | some d, some i => if d.isRow then some (some i.size) else some none
  | _, _ => none
def zeroOf (P : Program) (t : Nat) : Option (List PV) :=
  match P.info? t with
  | some i => match i.zero with
    | some z => z.cells.toList.mapM pvOf
    | none => none
  | none => none
def sizeT (P : Program) (t : Nat) : Option Nat := (P.info? t).map (·.size)

/-- a struct type whose fields are all whole numbers, bools and texts: their kinds -/
def flatKs (P : Program) : Nat → List Field → Option (List EK)
  | _, [] => some []
  | i, f :: r => if f.offset = i ∧ f.name ≠ "_" then
      match P.underlying f.type with
      | some (.int _) => (flatKs P (i + 1) r).map (.int :: ·)
      | some .bool => (flatKs P (i + 1) r).map (.bool :: ·)
      | some .string => (flatKs P (i + 1) r).map (.str :: ·)
      | _ => none
    else none
def flatEq (P : Program) (t : Nat) : Option (List EK) :=
  match P.underlying t with
  | some (.struct fs) => if P.stoodInHeld t = false ∧ P.eqGuardType P.depth t = false then flatKs P 0 fs.toList else none
  | _ => none

def compOp (P : Program) : Op → DOp
  | .move x => .mv (opd x)
  | .assign x => .mv (opd x)
  | .pick c a b => .pick (opd c) (opd a) (opd b)
  | .binOp op t x y _ =>
    match P.underlying t with
    | some (.struct _) => match flatEq P t with
      | some ks => (match op with | .eql => .eqs false ks (opd x) (opd y) | .neq => .eqs true ks (opd x) (opd y) | _ => .bad)
      | none => .bad
    | some (.slice _) => match y with
      | .const (.slice none 0 0) => (match op with | .eql => .isnil false (opd x) | .neq => .isnil true (opd x) | _ => .bad)
      | _ => .bad
    | some (.int _) => .bin op (opd x) (opd y)
    | some .string => .bin op (opd x) (opd y)
    | some .bool => (match op with | .eql => .beq false (opd x) (opd y) | .neq => .beq true (opd x) (opd y) | _ => .bad)
    | _ => .bad
  | .unOp op _ x => .un op (opd x)
  | .convert s d x =>
    match P.underlying s, P.underlying d with
    | some (.int _), some (.int k) => .cvi k (opd x)
    | some .string, some .string => .cvss (opd x)
    | some (.slice e), some .string => match P.underlying e with
      | some (.int .u8) => .cvbs (opd x)
      | _ => .bad
    | _, _ => .bad
  | .nilCheck x => .nilchk (opd x)
  | .fieldAddr s x f =>
    match P.underlying s with
    | some (.struct fs) => match fs[f]? with
      | some fd => match sizeT P fd.type with
        | some n => if n = 0 then .bad else .faddr fd.offset (opd x)
        | none => .bad
      | none => .bad
    | _ => .bad
  | .field s x f =>
    match P.underlying s with
    | some (.struct fs) => match fs[f]? with
      | some fd => match ldn P fd.type with
        | some n => .fld fd.offset n (opd x)
        | none => .bad
      | none => .bad
    | _ => .bad
  | .indexAddr t x i =>
    match P.underlying t with
    | some (.slice e) => match sizeT P e with
      | some n => .iaddr n (opd x) (opd i)
      | none => .bad
    | _ => .bad
  | .index t x i =>
    match P.underlying t with
    | some .string => .idx (opd x) (opd i)
    | _ => .bad
  | .slice t x lo hi mx =>
    match P.underlying t with
    | some .string => .slc 0 (opd x) (lo.map opd) (hi.map opd) (mx.map opd)
    | some (.slice e) => match sizeT P e with
      | some n => if n = 0 then .bad else .slc n (opd x) (lo.map opd) (hi.map opd) (mx.map opd)
      | none => .bad
    | _ => .bad
  | .extract x i => .ext (opd x) i
  | .makeFunc f a b => .mkf f (a.toList.map opd) (b.toList.map opd)
  | .build t parts =>
    match P.underlying t, zeroOf P t with
    | some (.struct fs), some z =>
      match fs.toList.mapM (fun f => (P.info? f.type).map fun i => (f.offset, i.size)) with
      | some places => match parts.toList.mapM (fun p => (places[p.1]?).map fun q => (q.1, q.2, opd p.2)) with
        | some ps => .build z ps
        | none => .bad
      | none => .bad
    | _, _ => .bad
  | .load t x => match ldn P t with
    | some n => .ld n (opd x)
    | none => .bad
  | .alloc t => match zeroOf P t with
    | some z => .alloc z
    | none => .bad
  | .box t x => match sizeT P t with
    | some n => .box n (opd x)
    | none => .bad
  | .call c =>
    match c.callee with
    | .builtin .len => match c.argTypes.toList, c.args.toList with
      | t :: _, [x] => match P.underlying t with
        | some .string => .len true (opd x)
        | some (.slice _) => .len false (opd x)
        | _ => .bad
      | _, _ => .bad
    | .builtin .max => match c.args.toList with
      | [x, y] => .mx true (opd x) (opd y)
      | _ => .bad
    | .builtin .min => match c.args.toList with
      | [x, y] => .mx false (opd x) (opd y)
      | _ => .bad
    | .builtin .append => match c.argTypes.toList, c.args.toList with
      | [t, u], [x, y] => match P.underlying t with
        | some (.slice e) => match P.info? e, zeroOf P e with
          | some i, some z => if z.length = i.size then (match P.underlying u with
            | some (.slice _) => .app i.size i.bytes (opd x) (opd y)
            | some .string => .app i.size i.bytes (opd x) (opd y)
            | _ => .bad) else .bad
          | _, _ => .bad
        | _ => .bad
      | _, _ => .bad
    | .value (.func f) => match P.funcs[f]? with
      | some fn => if fn.name == "runtime.NumGoroutine" || fn.body.isNone then .bad else .call f (c.args.toList.map opd)
      | none => .bad
    | .value (.tmp x) => .callv (.t x) (c.args.toList.map opd)
    | _ => .bad
  | .buildSlice t n parts =>
    match P.underlying t with
    | some (.slice e) => match sizeT P e, zeroOf P e with
      | some s, some z => if z.length = s then .bsl s n z (parts.toList.map fun p => (p.1, opd p.2)) else .bad
      | _, _ => .bad
    | _ => .bad
  | .makeSlice t l c =>
    match P.underlying t with
    | some (.slice e) => match P.info? e, zeroOf P e with
      | some i, some z => if z.length = i.size then .mks i.size i.bytes z (opd l) (opd c) else .bad
      | _, _ => .bad
    | _ => .bad
  | .store t a x => match sizeT P t with
    | some n => .st n (opd a) (opd x)
    | none => .bad
  | _ => .bad

/-! ### what is read back -/

section
variable {w : World} {S : Nat → Prop} {κ : Nat → Nat}

theorem pvOf_rel {v : Value} {p : PV} (h : pvOf v = some p) : PRel w S p v := by
  unfold pvOf at h
  split at h <;> first
    | (cases h; first | exact .int _ _ | exact .bool _ | exact .nilptr | exact .nilfn | exact .niface | exact .slnil _ _ (by simp))
    | (cases h; rename_i s; have : PRel w S (.str s.data.toList) (.string ⟨s.data.toList.toArray⟩) := .str _; simpa using this)
    | cases h

theorem DRel.int_inv {k : IntKind} {n : Int} {v : Value} (h : DRel w S κ (.p (.int k n)) v) : v = .int k n := by cases h with | p _ _ h => cases h; rfl
theorem DRel.bool_inv {b : Bool} {v : Value} (h : DRel w S κ (.p (.bool b)) v) : v = .bool b := by cases h with | p _ _ h => cases h; rfl
theorem DRel.str_inv {s : List UInt8} {v : Value} (h : DRel w S κ (.p (.str s)) v) : v = .string ⟨s.toArray⟩ := by cases h with | p _ _ h => cases h; rfl

theorem Sat.ev {x : Fx} {st : St} {a : Act} (h : Sat x st κ a w) (o : Operand) : DRel w (x.S st κ) κ (st.ev (opd o)) (a.eval o) := by
  cases o with
  | tmp t => exact h.get t
  | const v =>
    simp only [opd]
    cases hp : pvOf v with
    | none => exact .undef _
    | some p => exact .p _ _ (pvOf_rel hp)
  | func f => exact .p _ _ (.fn _ [] [] [] [] rfl rfl (fun i c v hc => by simp at hc) (fun i c v hc => by simp at hc))
  | global g => exact .undef _

theorem Sat.evs {x : Fx} {st : St} {a : Act} (h : Sat x st κ a w) (l : List Operand) (i : Nat) (c : DV) (v : Value) (hc : ((l.map opd).map st.ev)[i]? = some c) (hv : (l.map a.eval)[i]? = some v) : DRel w (x.S st κ) κ c v := by
  simp only [List.getElem?_map, Option.map_map, Option.map_eq_some_iff] at hc hv
  obtain ⟨o, ho, rfl⟩ := hc
  obtain ⟨o', ho', rfl⟩ := hv
  rw [ho] at ho'
  cases ho'
  exact h.ev o

theorem pures_rel : ∀ {cs : List DV} {ps : List PV}, pures cs = some ps → ∀ {vs : List Value}, (∀ (i : Nat) (c : DV) (v : Value), cs[i]? = some c → vs[i]? = some v → DRel w S κ c v) →
    ps.length = cs.length ∧ ∀ (i : Nat) (c : PV) (v : Value), ps[i]? = some c → vs[i]? = some v → PRel w S c v
  | [], ps, h, vs, hr => by simp only [pures, Option.some.injEq] at h; subst h; exact ⟨rfl, fun i c v hc => by simp at hc⟩
  | .p q :: r, ps, h, vs, hr => by
    simp only [pures, Option.map_eq_some_iff] at h
    obtain ⟨qs, hq, rfl⟩ := h
    obtain ⟨hl, hh⟩ := pures_rel hq (vs := vs.tail) (fun i c v hc hv => hr (i + 1) c v (by simpa using hc) (by simpa using hv))
    refine ⟨by simp [hl], fun i c v hc hv => ?_⟩
    cases i with
    | zero =>
      simp only [List.getElem?_cons_zero, Option.some.injEq] at hc
      subst hc
      cases hr 0 (.p q) v (by simp) hv with | p _ _ h => exact h
    | succ i => exact hh i c v (by simpa using hc) (by simpa using hv)
  | .undef :: r, ps, h, vs, hr => by simp [pures] at h
  | .own .. :: r, ps, h, vs, hr => by simp [pures] at h
  | .ptr .. :: r, ps, h, vs, hr => by simp [pures] at h
  | .agg .. :: r, ps, h, vs, hr => by simp [pures] at h
  | .tup .. :: r, ps, h, vs, hr => by simp [pures] at h
  | .fn .. :: r, ps, h, vs, hr => by simp [pures] at h

theorem mkAgg_rel {cs : List DV} {vs : List Value} (hl : cs.length = vs.length) (hr : ∀ (i : Nat) (c : DV) (v : Value), cs[i]? = some c → vs[i]? = some v → DRel w S κ c v) : DRel w S κ (mkAgg cs) (.agg vs.toArray) := by
  unfold mkAgg
  cases hp : pures cs with
  | none => exact .agg cs vs hl hr
  | some ps =>
    obtain ⟨h1, h2⟩ := pures_rel hp hr
    exact .p _ _ (.agg ps vs (by rw [h1, hl]) h2)

/-- the cells of a value -/
theorem cells_rel {d : DV} {v : Value} (h : DRel w S κ d v) (hu : d.cells.all DV.leaf = true) :
    d.cells.length = v.cells.size ∧ (∀ (i : Nat) (c : DV) (u : Value), d.cells[i]? = some c → v.cells[i]? = some u → DRel w S κ c u) := by
  cases h with
  | undef v => simp [DV.cells, DV.leaf] at hu
  | p q x h =>
    cases h with
    | agg cs vs hl hr =>
      simp only [DV.cells, Value.cells]
      refine ⟨by simp [hl], fun i c u hc hv => ?_⟩
      simp only [List.getElem?_map, Option.map_eq_some_iff] at hc
      obtain ⟨p, hp, rfl⟩ := hc
      exact .p _ _ (hr i p u hp (by simpa using hv))
    | tup cs vs hl hr => simp [DV.cells, DV.leaf, PV.leaf] at hu
    | int k n => exact ⟨rfl, fun i c u hc hv => by cases i <;> simp [DV.cells, Value.cells] at hc hv; subst hc hv; exact .p _ _ (.int _ _)⟩
    | bool b => exact ⟨rfl, fun i c u hc hv => by cases i <;> simp [DV.cells, Value.cells] at hc hv; subst hc hv; exact .p _ _ (.bool _)⟩
    | str s => exact ⟨rfl, fun i c u hc hv => by cases i <;> simp [DV.cells, Value.cells] at hc hv; subst hc hv; exact .p _ _ (.str _)⟩
    | nilptr => exact ⟨rfl, fun i c u hc hv => by cases i <;> simp [DV.cells, Value.cells] at hc hv; subst hc hv; exact .p _ _ .nilptr⟩
    | nilfn => exact ⟨rfl, fun i c u hc hv => by cases i <;> simp [DV.cells, Value.cells] at hc hv; subst hc hv; exact .p _ _ .nilfn⟩
    | niface => exact ⟨rfl, fun i c u hc hv => by cases i <;> simp [DV.cells, Value.cells] at hc hv; subst hc hv; exact .p _ _ .niface⟩
    | slnil o sz ho => exact ⟨rfl, fun i c u hc hv => by cases i <;> simp [DV.cells, Value.cells] at hc hv; subst hc hv; exact .p _ _ (.slnil _ _ ho)⟩
    | sl o ho sz rows spare b off cap f h1 h2 h3 h4 h5 h6 h7 => exact ⟨rfl, fun i c u hc hv => by cases i <;> simp [DV.cells, Value.cells] at hc hv; subst hc hv; exact .p _ _ (.sl o ho _ _ _ _ _ _ f h1 h2 h3 h4 h5 h6 h7)⟩
    | pp sz rows n o b off f h1 h2 h3 h4 h5 => exact ⟨rfl, fun i c u hc hv => by cases i <;> simp [DV.cells, Value.cells] at hc hv; subst hc hv; exact .p _ _ (.pp _ _ _ _ _ _ f h1 h2 h3 h4 h5)⟩
    | fn g fs cs us vs h1 h2 h3 h4 => exact ⟨rfl, fun i c u hc hv => by cases i <;> simp [DV.cells, Value.cells] at hc hv; subst hc hv; exact .p _ _ (.fn _ _ _ _ _ h1 h2 h3 h4)⟩
  | own k sz start len room cap o h1 h2 h3 h4 cur e fr hb hfit => exact ⟨rfl, fun i c u hc hv => by cases i <;> simp [DV.cells, Value.cells] at hc hv; subst hc hv; exact .own k sz start len room cap o h1 h2 h3 h4 cur e fr hb hfit⟩
  | ownnil k sz => exact ⟨rfl, fun i c u hc hv => by cases i <;> simp [DV.cells, Value.cells] at hc hv; subst hc hv; exact .ownnil _ _⟩
  | ptr k sz i off => exact ⟨rfl, fun i c u hc hv => by cases i <;> simp [DV.cells, Value.cells] at hc hv; subst hc hv; exact .ptr _ _ _ _⟩
  | agg cs vs hl hr =>
    simp only [DV.cells, Value.cells]
    exact ⟨by simp [hl], fun i c u hc hv => hr i c u hc (by simpa using hv)⟩
  | tup cs vs hl hr => simp [DV.cells, DV.leaf] at hu
  | fn g fs cs us vs h1 h2 h3 h4 => exact ⟨rfl, fun i c u hc hv => by cases i <;> simp [DV.cells, Value.cells] at hc hv; subst hc hv; exact .fn _ _ _ _ _ h1 h2 h3 h4⟩

theorem leaf_one {d : DV} {v : Value} (h : DRel w S κ d v) (hl : d.leaf = true) : v.oneCell' = true := by
  cases h with
  | undef v => simp [DV.leaf] at hl
  | p q x h => cases h <;> first | rfl | simp [DV.leaf, PV.leaf] at hl
  | own => rfl
  | ownnil => rfl
  | ptr => rfl
  | agg => simp [DV.leaf] at hl
  | tup => simp [DV.leaf] at hl
  | fn => rfl
end
end Go.Dl
