/- The operations with a value alone: what the machine does is what the symbolic step says. Each operation with a value alone: the machine yields what the symbolic step says. -/
import Derived.Test.YtjmhdfcmghmgjaaDoorA1
import Derived.Laws.Small
import Derived.Lib.SliceRun
set_option linter.unusedVariables false
set_option linter.unusedSimpArgs false
namespace Go.Dl

section
variable {w : World} {S : Nat → Prop} {κ : Nat → Nat} {P : Program}

theorem ldn_some {t : Nat} {n : Option Nat} (h : ldn P t = some n) : ∃ d i, P.underlying t = some d ∧ P.info? t = some i ∧ ((d.isRow = true ∧ n = some i.size) ∨ (d.isRow = false ∧ n = none)) := by
  unfold ldn at h
  split at h
  · rename_i d i hd hi
    split at h
    · rename_i hr; cases h; exact ⟨d, i, hd, hi, .inl ⟨hr, rfl⟩⟩
    · rename_i hr; cases h; exact ⟨d, i, hd, hi, .inr ⟨by simpa using hr, rfl⟩⟩
  · cases h

theorem sizeT_some {t n : Nat} (h : sizeT P t = some n) : ∃ i, P.info? t = some i ∧ i.size = n := by
  unfold sizeT at h
  cases hi : P.info? t with
  | none => simp [hi] at h
  | some i => simp [hi] at h; exact ⟨i, rfl, h⟩

theorem run_sizeOf {t : Nat} {i : TypeInfo} (hi : P.info? t = some i) (w : World) : (sizeOf t).run P w = .ok i.size w := by simp [sizeOf, typeInfo, hi]

theorem isAgg_run {t : Nat} {d : TypeDesc} (hd : P.underlying t = some d) (w : World) : (isAgg t).run P w = .ok d.isRow w := by
  cases d <;> simp [isAgg, run_underlying hd, TypeDesc.isRow]

/-- a part of a row of cells -/
theorem part_run {t : Nat} {n : Option Nat} (h : ldn P t = some n) (cs : List Value) (off : Nat) (w : World) :
    (∀ v, n = none → cs[off]? = some v → (part t cs.toArray off).run P w = .ok v w) ∧
    (∀ m, n = some m → off + m ≤ cs.length → (part t cs.toArray off).run P w = .ok (.agg ((cs.drop off).take m).toArray) w) := by
  obtain ⟨d, i, hd, hi, h⟩ := ldn_some h
  rcases h with ⟨hr, rfl⟩ | ⟨hr, rfl⟩
  · refine ⟨fun v h => (by cases h), fun m hm hle => ?_⟩
    cases hm
    simp only [part, Sem.run_bind, isAgg_run hd, Result.andThen_ok, hr, if_true, run_sizeOf hi, Sem.run_pure]
    congr 2
    apply Array.ext'
    simp
  · refine ⟨fun v _ hv => ?_, fun m hm => by cases hm⟩
    simp only [part, Sem.run_bind, isAgg_run hd, Result.andThen_ok, hr, Bool.false_eq_true, if_false]
    simp [hv]

theorem loadVar_run {t : Nat} {n : Option Nat} (h : ldn P t = some n) (b o : Nat) (w : World) :
    (∀ v, n = none → w.cell? ⟨b, o, none⟩ = some v → (loadVar t ⟨b, o, none⟩).run P w = .ok v w) ∧
    (∀ m (cs : List Value), n = some m → cs.length = m → w.rangeAt b o cs → (loadVar t ⟨b, o, none⟩).run P w = .ok (.agg cs.toArray) w) := by
  obtain ⟨d, i, hd, hi, h⟩ := ldn_some h
  rcases h with ⟨hr, rfl⟩ | ⟨hr, rfl⟩
  · refine ⟨fun v h => (by cases h), fun m cs hm hl hc => ?_⟩
    cases hm
    exact run_loadVar_mid w b o t cs d hc hd hr (by simp [hi, hl])
  · refine ⟨fun v _ hv => ?_, fun m _ hm => by cases hm⟩
    simp only [loadVar, Sem.run_bind, isAgg_run hd, Result.andThen_ok, hr, Bool.false_eq_true, if_false]
    simp [load, Sem.run, hv]

theorem asNat_inv {d : DV} {n : Nat} (h : asNat d = some n) {v : Value} (hd : DRel w S κ d v) : ∃ k, v = .int k (n : Int) := by
  unfold asNat at h
  split at h
  · rename_i k m
    split at h
    · cases h
      refine ⟨k, ?_⟩
      rw [hd.int_inv]
      congr 1
      omega
    · cases h
  · cases h

theorem sliceBound_run {n y : Nat} (k : IntKind) (code : BoundsCode) (h : n ≤ y) (w : World) : (Instr.sliceBound (.int k (n : Int)) y code).run P w = .ok n w := by
  simp [Instr.sliceBound, asIntOf, show ((n : Int) ≤ (y : Int)) from by omega]

theorem bnd_inv {top n : Nat} {d : DV} (h : bnd top d = some n) {v : Value} (hd : DRel w S κ d v) : (∃ k, v = .int k (n : Int)) ∧ n ≤ top := by
  unfold bnd at h
  split at h
  · rename_i m hm
    split at h
    · rename_i hle
      cases h
      exact ⟨asNat_inv hm hd, hle⟩
    · cases h
  · cases h

theorem cutB_run {isS : Bool} {len cap : Nat} {lo hi mx : Option Operand} {f : Operand → DV} {g : Operand → Value} (hfg : ∀ o, DRel w S κ (f o) (g o)) {l h m : Nat}
    (hc : cutB len cap (lo.map f) (hi.map f) (mx.map f) = some (l, h, m)) (capc : Nat) (hcap : cap ≤ capc) (hlen : len ≤ cap) :
    ∃ m', (Instr.sliceBounds isS len capc (lo.map g) (hi.map g) (mx.map g)).run P w = .ok (l, h, m') w ∧ l ≤ h ∧ h ≤ m ∧ m ≤ m' ∧ m ≤ cap ∧ m' ≤ capc := by
  unfold cutB at hc
  cases hm : bndO cap cap (mx.map f) with
  | none => simp [hm] at hc
  | some m0 =>
    simp only [hm] at hc
    cases hh : (if (hi.map f).isNone && (mx.map f).isSome then none else bndO m0 len (hi.map f)) with
    | none => rw [hh] at hc; cases hc
    | some h0 =>
      simp only [hh] at hc
      cases hl : bndO h0 0 (lo.map f) with
      | none => simp [hl] at hc
      | some l0 =>
        simp only [hl, Option.some.injEq, Prod.mk.injEq] at hc
        obtain ⟨rfl, rfl, rfl⟩ := hc
        have hlo : l0 ≤ h0 ∧ ∀ c : BoundsCode, (match lo.map g with | some v => Instr.sliceBound v h0 c | none => pure 0 : Sem Nat).run P w = .ok l0 w := by
          cases lo with
          | none => simp [bndO] at hl; subst hl; exact ⟨Nat.zero_le _, fun _ => rfl⟩
          | some d =>
            obtain ⟨⟨k, hk⟩, hle⟩ := bnd_inv (by simpa [bndO] using hl) (hfg d)
            refine ⟨hle, fun c => ?_⟩
            simp only [Option.map_some, hk]
            exact sliceBound_run k c hle w
        cases mx with
        | none =>
          simp [bndO] at hm
          subst hm
          have hhi : h0 ≤ cap ∧ ((match hi.map g with | some v => Instr.sliceBound v capc (if isS then .sliceAcap else .sliceAlen) | none => pure len : Sem Nat).run P w = .ok h0 w) := by
            cases hi with
            | none => simp [bndO] at hh; subst hh; exact ⟨hlen, rfl⟩
            | some d =>
              obtain ⟨⟨k, hk⟩, hle⟩ := bnd_inv (by simpa [bndO] using hh) (hfg d)
              refine ⟨hle, ?_⟩
              simp only [Option.map_some, hk]
              exact sliceBound_run k _ (by omega) w
          refine ⟨capc, ?_, hlo.1, hhi.1, hcap, Nat.le_refl _, Nat.le_refl _⟩
          cases hi with
          | none =>
            have h2 := hhi.2
            simp only [Option.map_none, Sem.run_pure] at h2
            cases h2
            cases lo with
            | none =>
              have h3 := hlo.2 .sliceB
              simp only [Option.map_none, Sem.run_pure] at h3
              cases h3
              simp [Instr.sliceBounds]
            | some d =>
              have h3 := hlo.2 .sliceB
              simp only [Option.map_some] at h3
              simp [Instr.sliceBounds, h3]
          | some d' =>
            have h2 := hhi.2
            simp only [Option.map_some] at h2
            cases lo with
            | none =>
              have h3 := hlo.2 .sliceB
              simp only [Option.map_none, Sem.run_pure] at h3
              cases h3
              simp [Instr.sliceBounds, h2]
            | some d =>
              have h3 := hlo.2 .sliceB
              simp only [Option.map_some] at h3
              simp [Instr.sliceBounds, h2, h3]
        | some dm =>
          obtain ⟨⟨km, hkm⟩, hlem⟩ := bnd_inv (by simpa [bndO] using hm) (hfg dm)
          cases hi with
          | none => simp at hh
          | some dh =>
            obtain ⟨⟨kh, hkh⟩, hleh⟩ := bnd_inv (by simpa [bndO] using hh) (hfg dh)
            refine ⟨m0, ?_, hlo.1, hleh, Nat.le_refl _, hlem, by omega⟩
            have e1 := sliceBound_run (P := P) km (if isS then .slice3Acap else .slice3Alen) (show m0 ≤ capc by omega) w
            have e2 := sliceBound_run (P := P) kh .slice3B hleh w
            cases lo with
            | none =>
              have h3 := hlo.2 .sliceB
              simp only [Option.map_none, Sem.run_pure] at h3
              cases h3
              simp [Instr.sliceBounds, hkm, hkh, e1, e2]
            | some d =>
              have h3 := hlo.2 .slice3C
              simp only [Option.map_some] at h3
              simp [Instr.sliceBounds, hkm, hkh, e1, e2, h3]

theorem bytes_toList (s : List UInt8) : (⟨s.toArray⟩ : ByteArray).toList = s := by rw [ByteArray.toList_eq]

theorem eqGuard_int (op : BinOp) (t : TypeId) (x y : Operand) (k k' : IntKind) (m n : Int) : (eqGuard op t x y (.int k m) (.int k' n)).run P w = .ok () w := by
  cases op <;> rfl
theorem eqGuard_str (op : BinOp) (t : TypeId) (x y : Operand) (m n : ByteArray) : (eqGuard op t x y (.string m) (.string n)).run P w = .ok () w := by
  cases op <;> rfl

theorem evBin_sound {op : BinOp} {p q r : PV} {u v : Value} (h : evBin op p q = some r) (hp : PRel w S p u) (hq : PRel w S q v) (t : TypeId) (x y : Operand) :
    ∃ z, (do eqGuard op t x y u v; binOp op t u v : Sem Value).run P w = .ok z w ∧ PRel w S r z := by
  cases hp with
  | int k a =>
    cases hq with
    | int k' b =>
      simp only [Sem.run_bind, eqGuard_int, Result.andThen_ok]
      cases op <;> simp only [evBin] at h <;> simp only [binOp]
      case shl | shr =>
        split at h
        · cases h
        · rename_i hb
          cases h
          exact ⟨_, by simp [Op.shift, hb], .int _ _⟩
      all_goals
        split at h
        · rename_i hk
          subst hk
          simp only [ne_eq, not_true_eq_false, if_false]
          first
            | (cases h; exact ⟨_, rfl, .int _ _⟩)
            | (cases h; exact ⟨_, rfl, .bool _⟩)
            | (split at h
               · cases h
               · rename_i hb; cases h; exact ⟨_, by simp [Op.intDiv, hb], .int _ _⟩)
            | cases h
        · cases h
    | _ => cases op <;> simp [evBin] at h
  | str a =>
    cases hq with
    | str b =>
      simp only [Sem.run_bind, eqGuard_str, Result.andThen_ok]
      cases op <;> simp only [evBin] at h <;> simp only [binOp] <;> first
        | (cases h; done)
        | (split at h
           · rename_i hle
             cases h
             have hsz : ¬ (((⟨a.toArray⟩ : ByteArray).size + (⟨b.toArray⟩ : ByteArray).size : Nat) : Int) > IntKind.i64.max := by
               have e1 : (⟨a.toArray⟩ : ByteArray).size = a.length := rfl
               have e2 : (⟨b.toArray⟩ : ByteArray).size = b.length := rfl
               rw [e1, e2]
               have : IntKind.i64.max = 9223372036854775807 := by decide
               rw [this]
               omega
             refine ⟨.string (⟨a.toArray⟩ ++ ⟨b.toArray⟩), by simp only [Op.stringOp, if_neg hsz]; rfl, ?_⟩
             have e : (⟨a.toArray⟩ : ByteArray) ++ ⟨b.toArray⟩ = ⟨(a ++ b).toArray⟩ := by
               apply ByteArray.ext
               simp
             rw [e]
             exact .str _
           · cases h)
        | (cases h; refine ⟨_, by simp only [Op.stringOp, bytes_toList]; rfl, ?_⟩; exact .bool _)
    | _ => cases op <;> simp [evBin] at h
  | _ => cases op <;> simp [evBin] at h

theorem underlying_info {t : Nat} {d : TypeDesc} (h : P.underlying t = some d) : ∃ i, P.info? t = some i := by
  unfold Program.underlying at h
  cases hi : P.info? t with
  | none => simp [hi] at h
  | some i => exact ⟨i, rfl⟩

theorem part_one {t : Nat} {d : TypeDesc} (hd : P.underlying t = some d) (hr : d.isRow = false) (cs : List Value) (off : Nat) (v : Value) (hv : cs[off]? = some v) (w : World) : (part t cs.toArray off).run P w = .ok v w := by
  obtain ⟨i, hi⟩ := underlying_info hd
  exact (part_run (n := none) (by simp [ldn, hd, hi, hr]) cs off w).1 v rfl hv

theorem flat_eq (us vs : List Value) (w : World) : ∀ (fs : List Field) (i : Nat) (ks : List EK) (ps qs : List PV) (b : Bool), flatKs P i fs = some ks → eqCells ks ps qs = some b →
    (∀ (j : Nat) (c : PV), ps[j]? = some c → ∃ v, us[i + j]? = some v ∧ PRel w S c v) → (∀ (j : Nat) (c : PV), qs[j]? = some c → ∃ v, vs[i + j]? = some v ∧ PRel w S c v) →
    ∀ d, (Op.eqFields (d + 1) us.toArray vs.toArray fs).run P w = .ok b w
  | [], i, ks, ps, qs, b, hk, he, h1, h2, d => by
    simp only [flatKs, Option.some.injEq] at hk
    subst hk
    cases ps <;> cases qs <;> simp [eqCells] at he
    subst he
    rfl
  | f :: r, i, ks, ps, qs, b, hk, he, h1, h2, d => by
    simp only [flatKs] at hk
    split at hk
    · rename_i hf
      obtain ⟨ho, hn⟩ := hf
      have main : ∀ (ks' : List EK) (p q : PV) (ps' qs' : List PV) (t b' : Bool), flatKs P (i + 1) r = some ks' → eqCells ks' ps' qs' = some b' → ps = p :: ps' → qs = q :: qs' → b = (t && b') →
          (∀ u v, PRel w S p u → PRel w S q v → (Op.equalIn (d + 1) f.type u v).run P w = .ok t w) → (∃ dd, P.underlying f.type = some dd ∧ dd.isRow = false) →
          (Op.eqFields (d + 1) us.toArray vs.toArray (f :: r)).run P w = .ok b w := by
        intro ks' p q ps' qs' t b' hk' he' ep eq eb heq ⟨dd, hdd, hrr⟩
        subst ep eq eb
        obtain ⟨u, hu, hpu⟩ := h1 0 p rfl
        obtain ⟨v, hv, hqv⟩ := h2 0 q rfl
        have ih := flat_eq us vs w r (i + 1) ks' ps' qs' b' hk' he' (fun j c hc => by have := h1 (j + 1) c (by simpa using hc); rwa [show i + (j + 1) = i + 1 + j from by omega] at this)
          (fun j c hc => by have := h2 (j + 1) c (by simpa using hc); rwa [show i + (j + 1) = i + 1 + j from by omega] at this) d
        rw [Nat.add_zero] at hu hv
        simp only [Op.eqFields, if_pos hn, Sem.run_bind, ho, part_one hdd hrr us i u hu w, part_one hdd hrr vs i v hv w, Result.andThen_ok, heq u v hpu hqv]
        cases t
        · simp
        · simpa using ih
      split at hk
      · rename_i k hu
        simp only [Option.map_eq_some_iff] at hk
        obtain ⟨ks', hk', rfl⟩ := hk
        cases ps with
        | nil => simp [eqCells] at he
        | cons p ps' =>
          cases qs with
          | nil => cases p <;> simp [eqCells] at he
          | cons q qs' =>
            cases p <;> cases q <;> simp only [eqCells] at he <;> first | (cases he; done) | skip
            split at he
            · rename_i hkk
              subst hkk
              simp only [Option.map_eq_some_iff] at he
              obtain ⟨b', he', rfl⟩ := he
              exact main ks' _ _ ps' qs' _ b' hk' he' rfl rfl rfl (fun u v hu' hv' => by cases hu'; cases hv'; exact run_equalIn_int w d f.type _ _ _ _ hu) ⟨_, hu, rfl⟩
            · cases he
      · rename_i hu
        simp only [Option.map_eq_some_iff] at hk
        obtain ⟨ks', hk', rfl⟩ := hk
        cases ps with
        | nil => simp [eqCells] at he
        | cons p ps' =>
          cases qs with
          | nil => cases p <;> simp [eqCells] at he
          | cons q qs' =>
            cases p <;> cases q <;> simp only [eqCells] at he <;> first | (cases he; done) | skip
            simp only [Option.map_eq_some_iff] at he
            obtain ⟨b', he', rfl⟩ := he
            exact main ks' _ _ ps' qs' _ b' hk' he' rfl rfl rfl (fun u v hu' hv' => by cases hu'; cases hv'; exact run_equalIn_bool' w d f.type _ _ hu) ⟨_, hu, rfl⟩
      · rename_i hu
        simp only [Option.map_eq_some_iff] at hk
        obtain ⟨ks', hk', rfl⟩ := hk
        cases ps with
        | nil => simp [eqCells] at he
        | cons p ps' =>
          cases qs with
          | nil => cases p <;> simp [eqCells] at he
          | cons q qs' =>
            cases p <;> cases q <;> simp only [eqCells] at he <;> first | (cases he; done) | skip
            simp only [Option.map_eq_some_iff] at he
            obtain ⟨b', he', rfl⟩ := he
            exact main ks' _ _ ps' qs' _ b' hk' he' rfl rfl rfl (fun u v hu' hv' => by cases hu'; cases hv'; rw [run_equalIn_string w d f.type _ _ hu, bytes_toList, bytes_toList]) ⟨_, hu, rfl⟩
      · cases hk
    · cases hk

theorem toArray_map_eval (l : List Operand) (f : Operand → Value) : (l.toArray.map f) = (l.map f).toArray := by simp

/-- What the machine's operation yields, where the symbolic step has a value. -/
def Yields (P : Program) (x : Fx) (st : St) (κ : Nat → Nat) (a : Act) (w : World) (o : Oper) (d : DV) : Prop :=
  ∃ v, (execOp a.eval o).run P w = .ok (.value v) w ∧ DRel w (x.S st κ) κ d v

variable {x : Fx} {st : St} {a : Act}

theorem getRow {rows : List (List PV)} {i : Nat} {r : List PV} (h : rows[i]? = some r) {off : Nat} {c : PV} (hc : r[off]? = some c) : rowAt rows i off = some c := by simp [rowAt, h, hc]

theorem ldRow_pp {n : Option Nat} {t : Nat} (hn : ldn P t = some n) {r : List PV} {off b base : Nat} {d : DV} (h : ldRow n r off .p (fun l => .p (.agg l)) = some d)
    (hcell : ∀ (j : Nat) (c : PV), r[j]? = some c → ∃ v, w.cell? ⟨b, base + j, none⟩ = some v ∧ PRel w S c v) :
    ∃ v, (Instr.loadAt t (.pointer (some ⟨b, base + off, none⟩))).run P w = .ok v w ∧ DRel w S κ d v := by
  unfold ldRow at h
  cases n with
  | none =>
    simp only [Option.map_eq_some_iff] at h
    obtain ⟨c, hc, rfl⟩ := h
    obtain ⟨v, h1, h2⟩ := hcell off c hc
    exact ⟨v, by simp only [Instr.loadAt, Instr.sureAddr, Sem.run_bind, Sem.run_pure, Result.andThen_ok]; exact (loadVar_run hn b (base + off) w).1 v rfl h1, .p _ _ h2⟩
  | some m =>
    simp only at h
    split at h
    · rename_i hle
      cases h
      have hex : ∀ j, j < m → ∃ v, w.cell? ⟨b, base + off + j, none⟩ = some v ∧ ∀ c, r[off + j]? = some c → PRel w S c v := by
        intro j hj
        obtain ⟨v, h1, h2⟩ := hcell (off + j) (r[off + j]'(by omega)) (List.getElem?_eq_getElem (by omega))
        refine ⟨v, by rw [← h1]; congr 2; omega, fun c hc => ?_⟩
        rw [List.getElem?_eq_getElem (by omega)] at hc
        cases hc
        exact h2
      let f : Nat → Value := fun j => if h : j < m then (hex j h).choose else undef
      have hf : ∀ j (hj : j < m), w.cell? ⟨b, base + off + j, none⟩ = some (f j) ∧ ∀ c, r[off + j]? = some c → PRel w S c (f j) := by
        intro j hj
        simp only [f, dif_pos hj]
        exact (hex j hj).choose_spec
      refine ⟨.agg ((List.range m).map f).toArray, ?_, ?_⟩
      · simp only [Instr.loadAt, Instr.sureAddr, Sem.run_bind, Sem.run_pure, Result.andThen_ok]
        refine (loadVar_run hn b (base + off) w).2 m _ rfl (by simp) (fun j v hv => ?_)
        simp only [List.getElem?_map, Option.map_eq_some_iff] at hv
        obtain ⟨k, hk, rfl⟩ := hv
        obtain ⟨hk1, rfl⟩ := List.getElem?_eq_some_iff.1 hk
        simp only [List.length_range] at hk1
        simp only [List.getElem_range]
        exact (hf j hk1).1
      · refine .p _ _ (.agg _ _ (by simp; omega) (fun j c v hc hv => ?_))
        simp only [List.getElem?_map, Option.map_eq_some_iff] at hv
        obtain ⟨k, hk, rfl⟩ := hv
        obtain ⟨hk1, rfl⟩ := List.getElem?_eq_some_iff.1 hk
        simp only [List.length_range] at hk1
        simp only [List.getElem_range]
        refine (hf j hk1).2 c ?_
        simp only [List.getElem?_take, if_pos hk1, List.getElem?_drop] at hc
        exact hc
    · cases h

theorem ldRow_m {n : Option Nat} {t : Nat} (hn : ldn P t = some n) {r : List DV} {off b base : Nat} {d : DV} (h : ldRow n r off id mkAgg = some d)
    (hcell : ∀ (j : Nat) (c : DV), r[j]? = some c → ∃ v, w.cell? ⟨b, base + j, none⟩ = some v ∧ DRel w S κ c v) :
    ∃ v, (Instr.loadAt t (.pointer (some ⟨b, base + off, none⟩))).run P w = .ok v w ∧ DRel w S κ d v := by
  unfold ldRow at h
  cases n with
  | none =>
    simp only [Option.map_eq_some_iff] at h
    obtain ⟨c, hc, rfl⟩ := h
    obtain ⟨v, h1, h2⟩ := hcell off c hc
    exact ⟨v, by simp only [Instr.loadAt, Instr.sureAddr, Sem.run_bind, Sem.run_pure, Result.andThen_ok]; exact (loadVar_run hn b (base + off) w).1 v rfl h1, h2⟩
  | some m =>
    simp only at h
    split at h
    · rename_i hle
      cases h
      have hex : ∀ j, j < m → ∃ v, w.cell? ⟨b, base + off + j, none⟩ = some v ∧ ∀ c, r[off + j]? = some c → DRel w S κ c v := by
        intro j hj
        obtain ⟨v, h1, h2⟩ := hcell (off + j) (r[off + j]'(by omega)) (List.getElem?_eq_getElem (by omega))
        refine ⟨v, by rw [← h1]; congr 2; omega, fun c hc => ?_⟩
        rw [List.getElem?_eq_getElem (by omega)] at hc
        cases hc
        exact h2
      let f : Nat → Value := fun j => if h : j < m then (hex j h).choose else undef
      have hf : ∀ j (hj : j < m), w.cell? ⟨b, base + off + j, none⟩ = some (f j) ∧ ∀ c, r[off + j]? = some c → DRel w S κ c (f j) := by
        intro j hj
        simp only [f, dif_pos hj]
        exact (hex j hj).choose_spec
      refine ⟨.agg ((List.range m).map f).toArray, ?_, ?_⟩
      · simp only [Instr.loadAt, Instr.sureAddr, Sem.run_bind, Sem.run_pure, Result.andThen_ok]
        refine (loadVar_run hn b (base + off) w).2 m _ rfl (by simp) (fun j v hv => ?_)
        simp only [List.getElem?_map, Option.map_eq_some_iff] at hv
        obtain ⟨k, hk, rfl⟩ := hv
        obtain ⟨hk1, rfl⟩ := List.getElem?_eq_some_iff.1 hk
        simp only [List.length_range] at hk1
        simp only [List.getElem_range]
        exact (hf j hk1).1
      · refine mkAgg_rel (by simp; omega) (fun j c v hc hv => ?_)
        simp only [List.getElem?_map, Option.map_eq_some_iff] at hv
        obtain ⟨k, hk, rfl⟩ := hv
        obtain ⟨hk1, rfl⟩ := List.getElem?_eq_some_iff.1 hk
        simp only [List.length_range] at hk1
        simp only [List.getElem_range]
        refine (hf j hk1).2 c ?_
        simp only [List.getElem?_take, if_pos hk1, List.getElem?_drop] at hc
        exact hc
    · cases h

theorem y_ld (hs : Sat x st κ a w) {t : Nat} {n : Option Nat} (hn : ldn P t = some n) (y : Operand) {d : DV} (h : evOp st (.ld n (opd y)) = some d) :
    ∃ v, (Instr.loadAt t (a.eval y)).run P w = .ok v w ∧ DRel w (x.S st κ) κ d v := by
  have hy := hs.ev y
  simp only [evOp] at h
  generalize a.eval y = u at hy
  split at h
  · rename_i sz rows i off he
    rw [he] at hy
    cases hy with | p _ _ hy => cases hy with | pp _ _ _ _ b base f h1 h2 h3 h4 h5 =>
    split at h
    · rename_i r hr
      refine ldRow_pp hn h (fun j c hc => ⟨f i j, ?_, h5 i j c (getRow hr hc)⟩)
      exact (h4 i j c (getRow hr hc)).1
    · cases h
  · rename_i k sz i off he
    rw [he] at hy
    cases hy
    split at h
    · rename_i ob hob
      obtain ⟨wf, cur, e, hb, hlen, hc⟩ := hs.H k ob hob
      split at h
      · rename_i hsz
        subst hsz
        split at h
        · rename_i rows hrows
          split at h
          · rename_i r hr
            refine ldRow_pp hn h (fun j c hc' => ?_)
            obtain ⟨v, g1, g2, g3⟩ := hc i j (.p c) (by rw [hrows]; simp [Rows.at, getRow hr hc'])
            cases g3 with | p _ _ g3 =>
            exact ⟨v, by simp [World.cell?, hb, g1], g3⟩
          · cases h
        · rename_i rows hrows
          split at h
          · rename_i r hr
            refine ldRow_m hn h (fun j c hc' => ?_)
            obtain ⟨v, g1, g2, g3⟩ := hc i j c (by rw [hrows]; simp [Rows.at, rowAt, hr, hc'])
            exact ⟨v, by simp [World.cell?, hb, g1], g3⟩
          · cases h
      · cases h
    · cases h
  · cases h

theorem fold_set (cs : List Value) : ∀ (off k : Nat) (arr : Array Value), ((cs.zipIdx k).foldl (fun acc p => acc.setIfInBounds (off + p.2) p.1) arr).size = arr.size ∧
    ∀ i, ((cs.zipIdx k).foldl (fun acc p => acc.setIfInBounds (off + p.2) p.1) arr)[i]? = if off + k ≤ i ∧ i < off + k + cs.length ∧ i < arr.size then cs[i - (off + k)]? else arr[i]? := by
  induction cs with
  | nil => intro off k arr; refine ⟨rfl, fun i => ?_⟩; rw [if_neg (by simp only [List.length_nil]; omega)]; rfl
  | cons c r ih =>
    intro off k arr
    simp only [List.zipIdx_cons, List.foldl_cons]
    obtain ⟨h1, h2⟩ := ih off (k + 1) (arr.setIfInBounds (off + k) c)
    refine ⟨by rw [h1]; simp, fun i => ?_⟩
    rw [h2 i]
    simp only [Array.size_setIfInBounds, List.length_cons]
    by_cases hi : i = off + k
    · subst hi
      rw [if_neg (by omega)]
      by_cases hs : off + k < arr.size
      · rw [if_pos ⟨by omega, by omega, hs⟩]
        simp [hs]
      · rw [if_neg (by omega)]
        simp [hs]
    · by_cases hr : off + (k + 1) ≤ i ∧ i < off + (k + 1) + r.length ∧ i < arr.size
      · rw [if_pos hr, if_pos ⟨by omega, by omega, hr.2.2⟩]
        obtain ⟨m, hm⟩ : ∃ m, i - (off + k) = m + 1 := ⟨i - (off + k) - 1, by omega⟩
        rw [hm, List.getElem?_cons_succ]
        congr 1
        omega
      · rw [if_neg hr, if_neg (by omega)]
        simp [Ne.symm hi]

def RowRel (w : World) (S : Nat → Prop) (κ : Nat → Nat) (cs : List DV) (vs : Array Value) : Prop :=
  cs.length = vs.size ∧ ∀ (i : Nat) (c : DV) (v : Value), cs[i]? = some c → vs[i]? = some v → DRel w S κ c v

theorem fill_rel (place : Nat → Option (Nat × Nat)) : ∀ (ps : List (Nat × Nat × DV)) (vs : List (Nat × Value)) (z cs : List DV) (arr : Array Value), fillRow z ps = some cs → RowRel w S κ z arr →
    ps.length = vs.length → (∀ (i : Nat) (p : Nat × Nat × DV) (v : Nat × Value), ps[i]? = some p → vs[i]? = some v → place v.1 = some (p.1, p.2.1) ∧ DRel w S κ p.2.2 v.2) →
    ∃ arr', Instr.fill place arr vs = some arr' ∧ RowRel w S κ cs arr'
  | [], vs, z, cs, arr, h, hz, hl, hr => by
    simp only [fillRow, Option.some.injEq] at h
    subst h
    have : vs = [] := List.eq_nil_of_length_eq_zero hl.symm
    subst this
    exact ⟨arr, rfl, hz⟩
  | (off, n, d) :: ps, vs, z, cs, arr, h, hz, hl, hr => by
    cases vs with
    | nil => cases hl
    | cons v vs =>
      simp only [fillRow] at h
      split at h
      · rename_i hc
        obtain ⟨h1, h2, h3⟩ := hc
        obtain ⟨g1, g2⟩ := hr 0 _ _ rfl rfl
        obtain ⟨k1, k2⟩ := cells_rel g2 h3
        obtain ⟨i, v⟩ := v
        simp only at g1 g2 k1 k2
        have hsz : v.cells.size = n := by rw [← k1, h1]
        have hfit : ¬ (off + v.cells.size > arr.size) := by rw [hsz]; have := hz.1; omega
        have fs := fold_set v.cells.toList off 0 arr
        simp only [Nat.add_zero, Array.length_toList] at fs
        have ih := fill_rel place ps vs (z.take off ++ d.cells ++ z.drop (off + n)) cs ((v.cells.toList.zipIdx 0).foldl (fun acc p => acc.setIfInBounds (off + p.2) p.1) arr) h
          (by
            refine ⟨?_, fun j c u hc hu => ?_⟩
            · rw [fs.1, ← hz.1]; simp only [List.length_append, List.length_take, List.length_drop, h1]; omega
            · rw [fs.2 j] at hu
              have hlt : (z.take off).length = off := by simp; omega
              by_cases hj : j < off
              · rw [if_neg (by omega)] at hu
                rw [List.append_assoc, List.getElem?_append_left (by omega)] at hc
                exact hz.2 j c u (by simpa [List.getElem?_take, hj] using hc) hu
              · by_cases hj2 : j < off + n
                · rw [if_pos ⟨by omega, by omega, by have := hz.1; omega⟩] at hu
                  rw [List.getElem?_append_left (by simp only [List.length_append, hlt, h1]; omega), List.getElem?_append_right (by omega), hlt] at hc
                  exact k2 (j - off) c u hc (by simpa using hu)
                · rw [if_neg (by omega)] at hu
                  rw [List.getElem?_append_right (by simp only [List.length_append, hlt, h1]; omega), List.getElem?_drop] at hc
                  refine hz.2 j c u ?_ hu
                  rw [← hc]
                  congr 1
                  simp only [List.length_append, hlt, h1]
                  omega)
          (by simpa using hl) (fun i p q hp hq => hr (i + 1) p q (by simpa using hp) (by simpa using hq))
        obtain ⟨arr', h4, h5⟩ := ih
        refine ⟨arr', ?_, h5⟩
        rw [← h4]
        simp only [Instr.fill, g1]
        rw [if_neg (by simp [hsz]; rw [hsz] at hfit; omega)]
        congr 1
        rw [← Array.foldl_toList, Array.toList_zipIdx]
      · cases h

theorem mapM_pvOf {l : List Value} {z : List PV} (h : l.mapM pvOf = some z) : z.length = l.length ∧ ∀ (i : Nat) (c : PV) (v : Value), z[i]? = some c → l[i]? = some v → PRel w S c v := by
  induction l generalizing z with
  | nil => simp at h; subst h; exact ⟨rfl, fun i c v hc => by simp at hc⟩
  | cons a r ih =>
    simp only [List.mapM_cons, Option.bind_eq_bind, Option.bind_eq_some_iff, Option.pure_def, Option.some.injEq] at h
    obtain ⟨p, hp, q, hq, rfl⟩ := h
    obtain ⟨h1, h2⟩ := ih hq
    refine ⟨by simp [h1], fun i c v hc hv => ?_⟩
    cases i with
    | zero => simp at hc hv; subst hc hv; exact pvOf_rel hp
    | succ i => exact h2 i c v (by simpa using hc) (by simpa using hv)

theorem zeroOf_inv {t : Nat} {z : List PV} (h : zeroOf P t = some z) : ∃ i zv, P.info? t = some i ∧ i.zero = some zv ∧ zv.cells.toList.mapM pvOf = some z := by
  unfold zeroOf at h
  split at h
  · rename_i i hi
    split at h
    · rename_i zv hz; exact ⟨i, zv, hi, hz, h⟩
    · cases h
  · cases h

theorem mapM_some_get {α β : Type} {f : α → Option β} {l : List α} {r : List β} (h : l.mapM f = some r) : r.length = l.length ∧ ∀ (i : Nat) (x : α) (y : β), l[i]? = some x → r[i]? = some y → f x = some y := by
  induction l generalizing r with
  | nil => simp at h; subst h; exact ⟨rfl, fun i x y hx => by simp at hx⟩
  | cons a t ih =>
    simp only [List.mapM_cons, Option.bind_eq_bind, Option.bind_eq_some_iff, Option.pure_def, Option.some.injEq] at h
    obtain ⟨p, hp, q, hq, rfl⟩ := h
    obtain ⟨h1, h2⟩ := ih hq
    refine ⟨by simp [h1], fun i x y hx hy => ?_⟩
    cases i with
    | zero => simp at hx hy; subst hx hy; exact hp
    | succ i => exact h2 i x y (by simpa using hx) (by simpa using hy)

end
end Go.Dl
set_option linter.unusedVariables false
set_option linter.unusedSimpArgs false
namespace Go.Dl
section
variable {w : World} {S : Nat → Prop} {κ : Nat → Nat} {P : Program} {x : Fx} {st : St} {a : Act}

theorem neq_slice_nil (w : World) (t e : TypeId) (a : Option Addr) (n c : Nat) (h : P.underlying t = some (.slice e)) :
    (binOp .neq t (.slice a n c) (.slice none 0 0)).run P w = .ok (.bool (!a.isNone)) w := by
  simp only [binOp]
  simp [Op.equal, Op.maxDepth, Lib.run_equalIn_slice_nil w 9999 t e a n c 0 0 h]

theorem y_isnil (hs : Sat x st κ a w) {e : TypeId} {t : TypeId} (ht : P.underlying t = some (.slice e)) (neg : Bool) (y : Operand) {d : DV} (h : evOp st (.isnil neg (opd y)) = some d) :
    ∃ v, (do eqGuard (if neg then .neq else .eql) t y (.const (.slice none 0 0)) (a.eval y) (.slice none 0 0); binOp (if neg then .neq else .eql) t (a.eval y) (.slice none 0 0) : Sem Value).run P w = .ok v w ∧ DRel w S κ d v := by
  have hy := hs.ev y
  simp only [evOp] at h
  generalize a.eval y = u at hy
  split at h
  · rename_i b sz rows sp he
    cases h
    rw [he] at hy
    cases hy with | p _ _ hy => 
    cases hy with
    | slnil o sz ho =>
      have hb : b = true := by cases b <;> simp_all
      subst hb
      refine ⟨.bool (true != neg), ?_, .p _ _ (.bool _)⟩
      cases neg
      · simp [eqGuard, Lib.run_eql_slice_nil w t e none 0 0 0 0 ht]
      · simp [eqGuard, neq_slice_nil w t e none 0 0 ht]
    | slz o sz ho ad =>
      have hb : b = false := by cases b <;> simp_all
      subst hb
      refine ⟨.bool (false != neg), ?_, .p _ _ (.bool _)⟩
      cases neg
      · simp [eqGuard, Lib.run_eql_slice_nil w t e (some ad) 0 0 0 0 ht]
      · simp [eqGuard, neq_slice_nil w t e (some ad) 0 0 ht]
    | sl o ho _ _ _ b' off cap f =>
      have hb : b = false := by cases b <;> simp_all
      subst hb
      refine ⟨.bool (false != neg), ?_, .p _ _ (.bool _)⟩
      cases neg
      · simp [eqGuard, Lib.run_eql_slice_nil w t e (some ⟨b', off, none⟩) rows.length cap 0 0 ht]
      · simp [eqGuard, neq_slice_nil w t e (some ⟨b', off, none⟩) rows.length cap ht]
  · cases h

theorem y_beq (hs : Sat x st κ a w) {t : TypeId} (ht : P.underlying t = some .bool) (neg : Bool) (y z : Operand) {d : DV} (h : evOp st (.beq neg (opd y) (opd z)) = some d) :
    ∃ v, (do eqGuard (if neg then .neq else .eql) t y z (a.eval y) (a.eval z); binOp (if neg then .neq else .eql) t (a.eval y) (a.eval z) : Sem Value).run P w = .ok v w ∧ DRel w S κ d v := by
  have hy := hs.ev y
  have hz := hs.ev z
  simp only [evOp] at h
  split at h
  · rename_i p q hp hq
    cases h
    rw [hp] at hy
    rw [hq] at hz
    rw [hy.bool_inv, hz.bool_inv]
    refine ⟨.bool ((p == q) != neg), ?_, .p _ _ (.bool _)⟩
    cases neg
    · simp [eqGuard, run_eql_bool w t p q ht]
    · simp [eqGuard, run_neq_bool w t p q ht]
  · cases h

theorem y_eqs (hs : Sat x st κ a w) {t : TypeId} {ks : List EK} (ht : flatEq P t = some ks) (neg : Bool) (y z : Operand) {d : DV} (h : evOp st (.eqs neg ks (opd y) (opd z)) = some d) :
    ∃ v, (do eqGuard (if neg then .neq else .eql) t y z (a.eval y) (a.eval z); binOp (if neg then .neq else .eql) t (a.eval y) (a.eval z) : Sem Value).run P w = .ok v w ∧ DRel w S κ d v := by
  have hy := hs.ev y
  have hz := hs.ev z
  unfold flatEq at ht
  split at ht
  · rename_i fs hu
    split at ht
    · rename_i hc
      simp only [evOp] at h
      split at h
      · rename_i p q hp hq
        simp only [Option.map_eq_some_iff] at h
        obtain ⟨b, hb, rfl⟩ := h
        rw [hp] at hy
        rw [hq] at hz
        generalize a.eval y = u at hy ⊢
        generalize a.eval z = v at hz ⊢
        cases hy with | p _ _ hy => cases hz with | p _ _ hz =>
        cases hy with | agg _ us hl1 hr1 => cases hz with | agg _ vs hl2 hr2 =>
        have hfo : P.fieldsOf t = fs := by simp [Program.fieldsOf, hu]
        have hun : P.underlying t = some (.struct (P.fieldsOf t)) := by rw [hfo]; exact hu
        have hb' := flat_eq (P := P) (S := x.S st κ) us vs w fs.toList 0 ks p q b ht hb
          (fun j c hc => by
            have hlt : j < us.length := by rw [← hl1]; exact (List.getElem?_eq_some_iff.1 hc).1
            exact ⟨us[j], by rw [Nat.zero_add]; exact List.getElem?_eq_getElem hlt, hr1 j c _ hc (List.getElem?_eq_getElem hlt)⟩)
          (fun j c hc => by
            have hlt : j < vs.length := by rw [← hl2]; exact (List.getElem?_eq_some_iff.1 hc).1
            exact ⟨vs[j], by rw [Nat.zero_add]; exact List.getElem?_eq_getElem hlt, hr2 j c _ hc (List.getElem?_eq_getElem hlt)⟩)
        have heq : (Op.equalIn 10000 t (.agg us.toArray) (.agg vs.toArray)).run P w = .ok b w := by
          rw [show 10000 = 9998 + 1 + 1 from rfl, run_equalIn_struct w _ t _ _ hun hc.1, hfo]
          exact hb' 9998
        refine ⟨.bool (b != neg), ?_, .p _ _ (.bool _)⟩
        simp only [Sem.run_bind, run_eqGuard_agg w _ t y z _ _ hc.2, Result.andThen_ok]
        cases neg
        · simp [run_eql_struct, heq]
        · simp [run_neq_struct, heq]
      · cases h
    · cases ht
  · cases ht

theorem y_un (hs : Sat x st κ a w) (op : UnOp) (y : Operand) {d : DV} (h : evOp st (.un op (opd y)) = some d) : ∃ v, (Op.unary op (a.eval y)).run P w = .ok v w ∧ DRel w S κ d v := by
  have hy := hs.ev y
  simp only [evOp] at h
  split at h
  · rename_i b he
    split at h
    · rename_i ho
      cases h
      subst ho
      rw [he] at hy
      rw [hy.bool_inv]
      exact ⟨_, rfl, .p _ _ (.bool _)⟩
    · cases h
  · rename_i k n he
    split at h
    · rename_i ho
      cases h
      subst ho
      rw [he] at hy
      rw [hy.int_inv]
      exact ⟨_, rfl, .p _ _ (.int _ _)⟩
    · cases h
  · cases h

theorem y_faddr (hs : Sat x st κ a w) {s : TypeId} {fs : Array Field} (hu : P.underlying s = some (.struct fs)) {f n : Nat} {fd : Field} (hf : fs[f]? = some fd) (hn : sizeT P fd.type = some n) (hn0 : n ≠ 0) (y : Operand) {d : DV}
    (h : evOp st (.faddr fd.offset (opd y)) = some d) : ∃ v, (Instr.fieldAt s (a.eval y) f).run P w = .ok v w ∧ DRel w (x.S st κ) κ d v := by
  have hy := hs.ev y
  obtain ⟨i, hi, rfl⟩ := sizeT_some hn
  have run : ∀ b o, (Instr.fieldAt s (.pointer (some ⟨b, o, none⟩)) f).run P w = .ok (.pointer (some ⟨b, o + fd.offset, none⟩)) w := by
    intro b o
    simp [Instr.fieldAt, run_underlying hu, hf, Instr.sureAddr, fieldPlace, run_sizeOf hi, hn0, Addr.add_mid]
  simp only [evOp] at h
  generalize a.eval y = u at hy
  split at h
  · rename_i k sz i off he
    cases h
    rw [he] at hy
    cases hy
    exact ⟨_, run _ _, by rw [Nat.add_assoc]; exact .ptr _ _ _ _⟩
  · rename_i sz rows i off he
    cases h
    rw [he] at hy
    cases hy with | p _ _ hy => cases hy with | pp _ _ _ _ b base f h1 h2 h3 h4 h5 =>
    exact ⟨_, run _ _, by rw [Nat.add_assoc]; exact .p _ _ (.pp _ _ _ _ _ _ _ h1 h2 h3 h4 h5)⟩
  · cases h

theorem y_fld (hs : Sat x st κ a w) {s : TypeId} {fs : Array Field} (hu : P.underlying s = some (.struct fs)) {f : Nat} {n : Option Nat} {fd : Field} (hf : fs[f]? = some fd) (hn : ldn P fd.type = some n) (y : Operand) {d : DV}
    (h : evOp st (.fld fd.offset n (opd y)) = some d) : ∃ v, (Instr.field s (a.eval y) f).run P w = .ok v w ∧ DRel w (x.S st κ) κ d v := by
  have hy := hs.ev y
  have run : ∀ vs v, (part fd.type vs fd.offset).run P w = .ok v w → (Instr.field s (.agg vs) f).run P w = .ok v w := by
    intro vs v hv
    simp [Instr.field, run_underlying hu, hf, asAgg, hv]
  simp only [evOp] at h
  generalize a.eval y = u at hy
  split at h
  · rename_i cs he
    rw [he] at hy
    cases hy with | p _ _ hy => cases hy with | agg _ vs hl hr =>
    unfold ldRow at h
    cases n with
    | none =>
      simp only [Option.map_eq_some_iff] at h
      obtain ⟨c, hc, rfl⟩ := h
      have hlt : fd.offset < vs.length := by rw [← hl]; exact (List.getElem?_eq_some_iff.1 hc).1
      exact ⟨_, run _ _ ((part_run hn vs fd.offset w).1 _ rfl (List.getElem?_eq_getElem hlt)), .p _ _ (hr _ _ _ hc (List.getElem?_eq_getElem hlt))⟩
    | some m =>
      simp only at h
      split at h
      · rename_i hle
        cases h
        refine ⟨_, run _ _ ((part_run hn vs fd.offset w).2 m rfl (by omega)), .p _ _ (.agg _ _ (by simp [hl]) (fun i c v hc hv => ?_))⟩
        rw [List.getElem?_take] at hc hv
        by_cases him : i < m
        · rw [if_pos him, List.getElem?_drop] at hc hv
          exact hr _ _ _ hc hv
        · rw [if_neg him] at hc; cases hc
      · cases h
  · rename_i cs he
    rw [he] at hy
    cases hy with | agg _ vs hl hr =>
    unfold ldRow at h
    cases n with
    | none =>
      simp only [Option.map_eq_some_iff] at h
      obtain ⟨c, hc, rfl⟩ := h
      have hlt : fd.offset < vs.length := by rw [← hl]; exact (List.getElem?_eq_some_iff.1 hc).1
      exact ⟨_, run _ _ ((part_run hn vs fd.offset w).1 _ rfl (List.getElem?_eq_getElem hlt)), hr _ _ _ hc (List.getElem?_eq_getElem hlt)⟩
    | some m =>
      simp only at h
      split at h
      · rename_i hle
        cases h
        refine ⟨_, run _ _ ((part_run hn vs fd.offset w).2 m rfl (by omega)), mkAgg_rel (by simp [hl]) (fun i c v hc hv => ?_)⟩
        rw [List.getElem?_take] at hc hv
        by_cases him : i < m
        · rw [if_pos him, List.getElem?_drop] at hc hv
          exact hr _ _ _ hc hv
        · rw [if_neg him] at hc; cases hc
      · cases h
  · cases h

theorem y_iaddr (hs : Sat x st κ a w) {t e : TypeId} (hu : P.underlying t = some (.slice e)) {n : Nat} (hn : sizeT P e = some n) (y z : Operand) {d : DV}
    (h : evOp st (.iaddr n (opd y) (opd z)) = some d) : ∃ v, (Instr.indexAt t (a.eval y) (a.eval z)).run P w = .ok v w ∧ DRel w (x.S st κ) κ d v := by
  have hy := hs.ev y
  have hz := hs.ev z
  obtain ⟨i, hi, rfl⟩ := sizeT_some hn
  have run : ∀ (b o len cap : Nat) (k : IntKind) (m : Int), (0 : Int) ≤ m → m < (len : Int) → (Instr.indexAt t (.slice (some ⟨b, o, none⟩) len cap) (.int k m)).run P w = .ok (.pointer (some ⟨b, o + m.toNat * i.size, none⟩)) w := by
    intro b o len cap k m h0 h1
    simp [Instr.indexAt, asIntOf, run_underlying hu, h0, h1, run_sizeOf hi, Addr.add_mid]
  simp only [evOp] at h
  generalize a.eval y = u at hy
  split at h
  · rename_i b sz rows sp k m hp hq
    split at h
    · rename_i hc
      obtain ⟨rfl, h0, h1⟩ := hc
      cases h
      rw [hp] at hy
      rw [hq] at hz
      rw [hz.int_inv]
      cases hy with | p _ _ hy =>
      cases hy with
      | slnil => simp at h1; omega
      | slz => simp at h1; omega
      | sl _ _ _ _ _ b off cap f h2 h3 h4 h5 h6 h7 h8 =>
        refine ⟨_, run _ _ _ _ _ _ h0 h1, .p _ _ ?_⟩
        have := PRel.pp (w := w) (S := x.S st κ) i.size (rows ++ sp) m.toNat 0 b off f h2 h3 h4 h7 h8
        simpa using this
    · cases h
  · rename_i k sz s len room k' m hp hq
    split at h
    · rename_i hc
      obtain ⟨rfl, h0, h1⟩ := hc
      cases h
      rw [hp] at hy
      rw [hq] at hz
      rw [hz.int_inv]
      cases hy with
      | own _ _ _ _ _ cap o h2 h3 h4 h5 cur e fr hb hfit =>
        refine ⟨_, run _ _ _ _ _ _ h0 h1, ?_⟩
        have ho : o = s * i.size := by rcases h5 with h5 | h5 <;> omega
        rw [ho, ← Nat.add_mul]
        exact .ptr _ _ _ _
      | ownnil => omega
    · cases h
  · cases h

theorem y_idx (hs : Sat x st κ a w) {t : TypeId} (hu : P.underlying t = some .string) (y z : Operand) {d : DV}
    (h : evOp st (.idx (opd y) (opd z)) = some d) : ∃ v, (Instr.index t (a.eval y) (a.eval z)).run P w = .ok v w ∧ DRel w (x.S st κ) κ d v := by
  have hy := hs.ev y
  have hz := hs.ev z
  simp only [evOp] at h
  split at h
  · rename_i s k m hp hq
    split at h
    · rename_i h0
      simp only [Option.map_eq_some_iff] at h
      obtain ⟨b, hb, rfl⟩ := h
      rw [hp] at hy
      rw [hq] at hz
      rw [hy.str_inv, hz.int_inv]
      refine ⟨.int .u8 b.toNat, ?_, .p _ _ (.int _ _)⟩
      have hb' : (⟨s.toArray⟩ : ByteArray)[m.toNat]? = some b := by
        obtain ⟨h1, h2⟩ := List.getElem?_eq_some_iff.1 hb
        have h3 : m.toNat < (⟨s.toArray⟩ : ByteArray).size := h1
        rw [getElem?_pos (⟨s.toArray⟩ : ByteArray) m.toNat h3]
        congr 1
      simp [Instr.index, asIntOf, run_underlying hu, h0, hb']
    · cases h
  · cases h

theorem y_len_str (hs : Sat x st κ a w) {t : TypeId} {ts : List TypeId} (hu : P.underlying t = some .string) (ty : TypeId) (y : Operand) {d : DV}
    (h : evOp st (.len true (opd y)) = some d) : ∃ v, (Builtin.len_ (t :: ts).toArray ty #[a.eval y]).run P w = .ok v w ∧ DRel w (x.S st κ) κ d v := by
  have hy := hs.ev y
  simp only [evOp] at h
  split at h
  · rename_i s he
    cases h
    rw [he] at hy
    rw [hy.str_inv]
    refine ⟨.int .i64 s.length, ?_, .p _ _ (.int _ _)⟩
    simp [Builtin.len_, run_underlying hu, goInt]
    rfl
  · cases h
  · cases h
  · cases h

theorem y_len_sl (hs : Sat x st κ a w) {t e : TypeId} {ts : List TypeId} (hu : P.underlying t = some (.slice e)) (ty : TypeId) (y : Operand) {d : DV}
    (h : evOp st (.len false (opd y)) = some d) : ∃ v, (Builtin.len_ (t :: ts).toArray ty #[a.eval y]).run P w = .ok v w ∧ DRel w (x.S st κ) κ d v := by
  have hy := hs.ev y
  simp only [evOp] at h
  generalize a.eval y = u at hy
  split at h
  · cases h
  · rename_i b sz rows sp he
    cases h
    rw [he] at hy
    cases hy with | p _ _ hy =>
    cases hy with
    | slnil => exact ⟨.int .i64 0, by simp [Builtin.len_, run_underlying hu, goInt], .p _ _ (.int _ _)⟩
    | slz => exact ⟨.int .i64 0, by simp [Builtin.len_, run_underlying hu, goInt], .p _ _ (.int _ _)⟩
    | sl => exact ⟨.int .i64 rows.length, by simp [Builtin.len_, run_underlying hu, goInt], .p _ _ (.int _ _)⟩
  · rename_i k sz s len room he
    cases h
    rw [he] at hy
    cases hy with
    | own => exact ⟨.int .i64 len, by simp [Builtin.len_, run_underlying hu, goInt], .p _ _ (.int _ _)⟩
    | ownnil => exact ⟨.int .i64 0, by simp [Builtin.len_, run_underlying hu, goInt], .p _ _ (.int _ _)⟩
  · cases h

theorem y_mx (hs : Sat x st κ a w) (big : Bool) (ts : Array TypeId) (ty : TypeId) (y z : Operand) {d : DV} (h : evOp st (.mx big (opd y) (opd z)) = some d) :
    ∃ v, (if big then Builtin.max_ ts ty #[a.eval y, a.eval z] else Builtin.min_ ts ty #[a.eval y, a.eval z]).run P w = .ok v w ∧ DRel w S κ d v := by
  have hy := hs.ev y
  have hz := hs.ev z
  simp only [evOp] at h
  split at h
  · rename_i k p k' q hp hq
    split at h
    · rename_i hk
      cases h
      rw [hp] at hy
      rw [hq] at hz
      rw [hy.int_inv, hz.int_inv]
      cases big
      · refine ⟨.int k (min p q), ?_, .p _ _ (.int _ _)⟩
        simp [Builtin.min_, Builtin.min2]
        by_cases hh : q < p
        · rw [if_pos hh]; omega
        · rw [if_neg hh]; omega
      · refine ⟨.int k (max p q), ?_, .p _ _ (.int _ _)⟩
        simp [Builtin.max_, Builtin.max2]
        by_cases hh : p < q
        · rw [if_pos hh]; omega
        · rw [if_neg hh]; omega
    · cases h
  · cases h

theorem str_extract (s : List UInt8) (l h : Nat) : (⟨s.toArray⟩ : ByteArray).extract l h = ⟨((s.drop l).take (h - l)).toArray⟩ := by
  apply ByteArray.ext
  rw [ByteArray.data_extract]
  apply Array.ext'
  simp

theorem y_slc_str (hs : Sat x st κ a w) {t : TypeId} (hu : P.underlying t = some .string) (y : Operand) (lo hi mx : Option Operand) {d : DV}
    (h : evOp st (.slc 0 (opd y) (lo.map opd) (hi.map opd) (mx.map opd)) = some d) :
    ∃ v, (Instr.sliceAt t (a.eval y) (lo.map a.eval) (hi.map a.eval) (mx.map a.eval)).run P w = .ok v w ∧ DRel w S κ d v := by
  have hy := hs.ev y
  simp only [evOp] at h
  split at h
  · rename_i s he
    rw [he] at hy
    split at h
    · cases h
    · rename_i hm
      cases mx with
      | some m => simp at hm
      | none =>
        split at h
        · rename_i l hh m hc
          cases h
          simp only [Option.map_map] at hc
          obtain ⟨m', h1, h2, h3, h4, h5, h6⟩ := cutB_run (P := P) (S := x.S st κ) (κ := κ) (w := w) (isS := false) (mx := none) (f := st.ev ∘ opd) (g := a.eval) (fun o => hs.ev o) hc s.length (Nat.le_refl _) (Nat.le_refl _)
          rw [hy.str_inv]
          refine ⟨.string ((⟨s.toArray⟩ : ByteArray).extract l hh), ?_, ?_⟩
          · have e : (⟨s.toArray⟩ : ByteArray).size = s.length := rfl
            simp only [Option.map_none] at h1
            simp [Instr.sliceAt, run_underlying hu, Instr.slice, e, h1]
          · rw [str_extract s l hh]
            exact .p _ _ (.str _)
        · cases h
  · split at h
    · rename_i hc; exact (hc.2 rfl).elim
    · cases h
  · split at h
    · rename_i hc; exact (hc.2 rfl).elim
    · cases h
  · cases h

theorem rowAt_drop_take {α : Type} (rows : List (List α)) (l n i j : Nat) (c : α) (h : rowAt ((rows.drop l).take n) i j = some c) : rowAt rows (l + i) j = some c := by
  unfold rowAt at h ⊢
  rw [List.getElem?_take] at h
  by_cases hi : i < n
  · rw [if_pos hi, List.getElem?_drop] at h; exact h
  · rw [if_neg hi] at h; cases h

theorem take_drop_append {α : Type} (L : List α) (l h m : Nat) (h1 : l ≤ h) (h2 : h ≤ m) : (L.drop l).take (h - l) ++ (L.drop h).take (m - h) = (L.drop l).take (m - l) := by
  have e : m - l = (h - l) + (m - h) := by omega
  rw [e, List.take_add, List.drop_drop, show l + (h - l) = h from by omega]

theorem y_slc (hs : Sat x st κ a w) {t e : TypeId} (hu : P.underlying t = some (.slice e)) {n : Nat} (hn : sizeT P e = some n) (hn0 : n ≠ 0) (y : Operand) (lo hi mx : Option Operand) {d : DV}
    (h : evOp st (.slc n (opd y) (lo.map opd) (hi.map opd) (mx.map opd)) = some d) :
    ∃ v, (Instr.sliceAt t (a.eval y) (lo.map a.eval) (hi.map a.eval) (mx.map a.eval)).run P w = .ok v w ∧ DRel w (x.S st κ) κ d v := by
  have hy := hs.ev y
  obtain ⟨i, hi', rfl⟩ := sizeT_some hn
  have run : ∀ (b : Option Addr) (len cap l h m : Nat), (Instr.sliceBounds true len cap (lo.map a.eval) (hi.map a.eval) (mx.map a.eval)).run P w = .ok (l, h, m) w →
      (Instr.sliceAt t (.slice b len cap) (lo.map a.eval) (hi.map a.eval) (mx.map a.eval)).run P w = .ok (.slice (if m = l then b else b.map (·.add (l * i.size))) (h - l) (m - l)) w := by
    intro b len cap l h m hb
    simp [Instr.sliceAt, run_underlying hu, Instr.slice, hb, run_sizeOf hi']
  simp only [evOp] at h
  generalize a.eval y = u at hy
  split at h
  · simp [hn0] at h
  · rename_i b0 sz rows sp he
    split at h
    · rename_i hcc
      obtain ⟨rfl, _⟩ := hcc
      split at h
      · rename_i l hh m hc
        cases h
        simp only [Option.map_map] at hc
        rw [he] at hy
        cases hy with | p _ _ hy =>
        cases hy with
        | slnil =>
          obtain ⟨m', h1, h2, h3, h4, h5, h6⟩ := cutB_run (P := P) (S := x.S st κ) (κ := κ) (w := w) (isS := true) (f := st.ev ∘ opd) (g := a.eval) (fun o => hs.ev o) hc 0 (by simp) (by simp)
          have e1 : l = 0 := by simp at h5; omega
          have e2 : hh = 0 := by simp at h5; omega
          have e3 : m = 0 := by simpa using h5
          have e4 : m' = 0 := by omega
          subst e1 e2 e3 e4
          refine ⟨_, run _ _ _ _ _ _ h1, ?_⟩
          simp
          exact .p _ _ (.slnil _ _ (by assumption))
        | slz oo _ hoo ad =>
          obtain ⟨m', h1, h2, h3, h4, h5, h6⟩ := cutB_run (P := P) (S := x.S st κ) (κ := κ) (w := w) (isS := true) (f := st.ev ∘ opd) (g := a.eval) (fun o => hs.ev o) hc 0 (by simp) (by simp)
          have e1 : l = 0 := by simp at h5; omega
          have e2 : hh = 0 := by simp at h5; omega
          have e3 : m = 0 := by simpa using h5
          have e4 : m' = 0 := by omega
          subst e1 e2 e3 e4
          refine ⟨_, run _ _ _ _ _ _ h1, ?_⟩
          simp
          exact .p _ _ (.slz _ _ hoo _)
        | sl oo hoo _ _ _ b off cap f g2 g3 g4 g5 g6 g7 g8 =>
          obtain ⟨m', h1, h2, h3, h4, h5, h6⟩ := cutB_run (P := P) (S := x.S st κ) (κ := κ) (w := w) (isS := true) (f := st.ev ∘ opd) (g := a.eval) (fun o => hs.ev o) hc cap g5 (by omega)
          refine ⟨_, run _ _ _ _ _ _ h1, .p _ _ ?_⟩
          have hlen1 : (((rows ++ sp).drop l).take (hh - l)).length = hh - l := by
            rw [List.length_take, List.length_drop, List.length_append]; omega
          have hlen2 : (((rows ++ sp).drop hh).take (m - hh)).length = m - hh := by
            rw [List.length_take, List.length_drop, List.length_append]; omega
          by_cases hml : m' = l
          · -- nothing is left: no cell
            have hm : m = l := by omega
            have hhl : hh = l := by omega
            subst hml
            subst hm
            subst hhl
            rw [if_pos rfl]
            have e1 : ((rows ++ sp).drop hh).take (hh - hh) = [] := by simp
            rw [e1, Nat.sub_self]
            exact .sl b0 hoo i.size [] [] b off 0 f g2 g3 (fun r hr => by simp at hr) (by simp) (by simp) (fun i j c hc => by simp [rowAt] at hc) (fun i j c hc => by simp [rowAt] at hc)
          · rw [if_neg hml]
            simp only [Option.map_some, Addr.add_mid]
            have := PRel.sl (w := w) (S := x.S st κ) b0 hoo i.size (((rows ++ sp).drop l).take (hh - l)) (((rows ++ sp).drop hh).take (m - hh)) b (off + l * i.size) (m' - l) (fun p q => f (l + p) q) g2 g3
              (fun r hr => by
                rw [take_drop_append _ _ _ _ h2 h3] at hr
                exact g4 r (List.mem_of_mem_drop (List.mem_of_mem_take hr)))
              (by rw [hlen1, hlen2]; omega) (by omega)
              (fun p q c hc' => by
                rw [take_drop_append _ _ _ _ h2 h3] at hc'
                have := g7 (l + p) q c (rowAt_drop_take _ _ _ _ _ _ hc')
                refine ⟨?_, this.2⟩
                rw [← this.1]
                congr 2
                rw [Nat.add_mul]
                omega)
              (fun p q c hc' => by
                rw [take_drop_append _ _ _ _ h2 h3] at hc'
                exact g8 (l + p) q c (rowAt_drop_take _ _ _ _ _ _ hc'))
            rw [hlen1] at this
            exact this
      · cases h
    · cases h
  · rename_i k sz s len room he
    split at h
    · rename_i hcc
      obtain ⟨rfl, _⟩ := hcc
      split at h
      · rename_i l hh m hc
        cases h
        simp only [Option.map_map] at hc
        rw [he] at hy
        cases hy with
        | own _ _ _ _ _ cap o g2 g3 g4 g5 cur e' fr hb hfit =>
          obtain ⟨m', h1, h2, h3, h4, h5, h6⟩ := cutB_run (P := P) (S := x.S st κ) (κ := κ) (w := w) (isS := true) (f := st.ev ∘ opd) (g := a.eval) (fun o => hs.ev o) hc cap g3 g2
          refine ⟨_, run _ _ _ _ _ _ h1, ?_⟩
          by_cases hml : m' = l
          · rw [if_pos hml]
            exact .own k i.size (s + l) (hh - l) (m - l) (m' - l) o (by omega) (by omega) (by omega) (.inl (by omega)) cur e' fr hb (.inr (by omega))
          · rw [if_neg hml]
            simp only [Option.map_some, Addr.add_mid]
            have ho : o = s * i.size := by rcases g5 with g5 | g5 <;> omega
            refine .own k i.size (s + l) (hh - l) (m - l) (m' - l) (o + l * i.size) (by omega) (by omega) (by omega) (.inr (by rw [ho, Nat.add_mul])) cur e' fr hb (.inl ?_)
            rcases hfit with hfit | hfit
            · have : l * i.size + (m' - l) * i.size ≤ cap * i.size := by rw [← Nat.add_mul]; exact Nat.mul_le_mul_right _ (by omega)
              omega
            · omega
        | ownnil =>
          obtain ⟨m', h1, h2, h3, h4, h5, h6⟩ := cutB_run (P := P) (S := x.S st κ) (κ := κ) (w := w) (isS := true) (f := st.ev ∘ opd) (g := a.eval) (fun o => hs.ev o) hc 0 (Nat.le_refl _) (Nat.le_refl _)
          have e1 : l = 0 := by omega
          have e2 : hh = 0 := by omega
          have e3 : m = 0 := by omega
          have e4 : m' = 0 := by omega
          subst e1 e2 e3 e4
          refine ⟨_, run _ _ _ _ _ _ h1, ?_⟩
          simp
          exact .ownnil _ _
      · cases h
    · cases h
  · cases h

theorem y_ext (hs : Sat x st κ a w) (i : Nat) (y : Operand) {d : DV} (h : evOp st (.ext (opd y) i) = some d) : ∃ v, (Instr.extract (a.eval y) i).run P w = .ok v w ∧ DRel w (x.S st κ) κ d v := by
  have hy := hs.ev y
  simp only [evOp] at h
  generalize a.eval y = u at hy
  split at h
  · rename_i vs he
    simp only [Option.map_eq_some_iff] at h
    obtain ⟨c, hc, rfl⟩ := h
    rw [he] at hy
    cases hy with | p _ _ hy => cases hy with | tup _ us hl hr =>
    have hlt : i < us.length := by rw [← hl]; exact (List.getElem?_eq_some_iff.1 hc).1
    exact ⟨us[i], by simp [Instr.extract, hlt], .p _ _ (hr _ _ _ hc (List.getElem?_eq_getElem hlt))⟩
  · rename_i vs he
    rw [he] at hy
    cases hy with | tup _ us hl hr =>
    have hlt : i < us.length := by rw [← hl]; exact (List.getElem?_eq_some_iff.1 h).1
    exact ⟨us[i], by simp [Instr.extract, hlt], hr _ _ _ h (List.getElem?_eq_getElem hlt)⟩
  · cases h

theorem y_mkf (hs : Sat x st κ a w) (f : Fn) (l c : List Operand) {d : DV} (h : evOp st (.mkf f (l.map opd) (c.map opd)) = some d) :
    DRel w (x.S st κ) κ d (.func f (l.map a.eval).toArray (c.map a.eval).toArray) := by
  have h1 := fun i c v => hs.evs l i c v
  have h2 := fun i c' v => hs.evs c i c' v
  simp only [evOp] at h
  split at h
  · rename_i u v hu hv
    cases h
    obtain ⟨a1, a2⟩ := pures_rel hu h1
    obtain ⟨b1, b2⟩ := pures_rel hv h2
    exact .p _ _ (.fn _ _ _ _ _ (by simpa using a1) (by simpa using b1) a2 b2)
  · cases h
    exact .fn _ _ _ _ _ (by simp) (by simp) h1 h2

theorem y_build (hs : Sat x st κ a w) {t : TypeId} {fs : Array Field} (hu : P.underlying t = some (.struct fs)) {z : List PV} (hz : zeroOf P t = some z) {places : List (Nat × Nat)}
    (hp : fs.toList.mapM (fun f => (P.info? f.type).map fun i => (f.offset, i.size)) = some places) (parts : Array (Nat × Operand)) {ps : List (Nat × Nat × DOpd)}
    (hps : parts.toList.mapM (fun p => (places[p.1]?).map fun q => (q.1, q.2, opd p.2)) = some ps) {d : DV} (h : evOp st (.build z ps) = some d) :
    ∃ v, (Instr.build t (parts.map fun (i, x) => (i, a.eval x))).run P w = .ok v w ∧ DRel w (x.S st κ) κ d v := by
  simp only [evOp] at h
  split at h
  · rename_i cs hcs
    cases h
    obtain ⟨it, zv, hi, hzv, hm⟩ := zeroOf_inv hz
    obtain ⟨m1, m2⟩ := mapM_pvOf (w := w) (S := x.S st κ) hm
    obtain ⟨p1, p2⟩ := mapM_some_get hps
    obtain ⟨arr, g1, g2⟩ := fill_rel (w := w) (S := x.S st κ) (κ := κ) (places.toArray[·]?) _ (parts.toList.map fun p => (p.1, a.eval p.2)) (z.map .p) cs zv.cells hcs
      ⟨by simpa using m1, fun i c v hc hv => by
        simp only [List.getElem?_map, Option.map_eq_some_iff] at hc
        obtain ⟨q, hq, rfl⟩ := hc
        exact .p _ _ (m2 i q v hq (by simpa using hv))⟩
      (by simpa using p1)
      (fun i p v hp' hv => by
        simp only [List.getElem?_map, Option.map_eq_some_iff] at hp' hv
        obtain ⟨q, hq, rfl⟩ := hp'
        obtain ⟨q', hq', rfl⟩ := hv
        have := p2 i q' q hq' hq
        simp only [Option.map_eq_some_iff] at this
        obtain ⟨pl, hpl, rfl⟩ := this
        exact ⟨by simpa using hpl, hs.ev _⟩)
    refine ⟨.agg arr, run_build w t _ arr ?_, ?_⟩
    · simp only [Program.built, hi, hu, hzv, hp, Array.toList_map]
      exact g1
    · have := mkAgg_rel (w := w) (S := x.S st κ) (κ := κ) (cs := cs) (vs := arr.toList) (by simpa using g2.1) (fun i c v hc hv => g2.2 i c v hc (by simpa using hv))
      simpa using this
  · cases h
end
end Go.Dl
