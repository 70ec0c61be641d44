/- The operations with a value alone: what the machine does is what the symbolic step says. -/
import Derived.Test.YtjmhdfcmghmgjaaDoorDlD
set_option linter.unusedVariables false
set_option linter.unusedSimpArgs false
namespace Go.Dl

section
variable {w : World} {S : Nat → Prop} {κ : Nat → Nat} {P : Program}

theorem ldn_some {t : Nat} {n : Option Nat} (h : ldn P t = some n) : ∃ d i, P.underlying t = some d ∧ P.info? t = some i ∧ ((d.isRow = true ∧ n = some i.size) ∨ (d.isRow = false ∧ n = none)) := by
  unfold ldn at h
  split at h
  · rename_i d i hd hi
    split at h
    · rename_i hr; cases h; exact ⟨d, i, hd, hi, .inl ⟨hr, rfl⟩⟩
    · rename_i hr; cases h; exact ⟨d, i, hd, hi, .inr ⟨by simpa using hr, rfl⟩⟩
  · cases h

theorem sizeT_some {t n : Nat} (h : sizeT P t = some n) : ∃ i, P.info? t = some i ∧ i.size = n := by
  unfold sizeT at h
  cases hi : P.info? t with
  | none => simp [hi] at h
  | some i => simp [hi] at h; exact ⟨i, rfl, h⟩

theorem run_sizeOf {t : Nat} {i : TypeInfo} (hi : P.info? t = some i) (w : World) : (sizeOf t).run P w = .ok i.size w := by simp [sizeOf, typeInfo, hi]

theorem isAgg_run {t : Nat} {d : TypeDesc} (hd : P.underlying t = some d) (w : World) : (isAgg t).run P w = .ok d.isRow w := by
  cases d <;> simp [isAgg, run_underlying hd, TypeDesc.isRow]

/-- a part of a row of cells -/
theorem part_run {t : Nat} {n : Option Nat} (h : ldn P t = some n) (cs : List Value) (off : Nat) (w : World) :
    (∀ v, n = none → cs[off]? = some v → (part t cs.toArray off).run P w = .ok v w) ∧
    (∀ m, n = some m → off + m ≤ cs.length → (part t cs.toArray off).run P w = .ok (.agg ((cs.drop off).take m).toArray) w) := by
  obtain ⟨d, i, hd, hi, h⟩ := ldn_some h
  rcases h with ⟨hr, rfl⟩ | ⟨hr, rfl⟩
  · refine ⟨fun v h => (by cases h), fun m hm hle => ?_⟩
    cases hm
    simp only [part, Sem.run_bind, isAgg_run hd, Result.andThen_ok, hr, if_true, run_sizeOf hi, Sem.run_pure]
    congr 2
    apply Array.ext'
    simp
  · refine ⟨fun v _ hv => ?_, fun m hm => by cases hm⟩
    simp only [part, Sem.run_bind, isAgg_run hd, Result.andThen_ok, hr, Bool.false_eq_true, if_false]
    simp [hv]

theorem loadVar_run {t : Nat} {n : Option Nat} (h : ldn P t = some n) (b o : Nat) (w : World) :
    (∀ v, n = none → w.cell? ⟨b, o, none⟩ = some v → (loadVar t ⟨b, o, none⟩).run P w = .ok v w) ∧
    (∀ m (cs : List Value), n = some m → cs.length = m → w.rangeAt b o cs → (loadVar t ⟨b, o, none⟩).run P w = .ok (.agg cs.toArray) w) := by
  obtain ⟨d, i, hd, hi, h⟩ := ldn_some h
  rcases h with ⟨hr, rfl⟩ | ⟨hr, rfl⟩
  · refine ⟨fun v h => (by cases h), fun m cs hm hl hc => ?_⟩
    cases hm
    exact run_loadVar_mid w b o t cs d hc hd hr (by simp [hi, hl])
  · refine ⟨fun v _ hv => ?_, fun m _ hm => by cases hm⟩
    simp only [loadVar, Sem.run_bind, isAgg_run hd, Result.andThen_ok, hr, Bool.false_eq_true, if_false]
    simp [load, Sem.run, hv]

theorem asNat_inv {d : DV} {n : Nat} (h : asNat d = some n) {v : Value} (hd : DRel w S κ d v) : ∃ k, v = .int k (n : Int) := by
  unfold asNat at h
  split at h
  · rename_i k m
    split at h
    · cases h
      refine ⟨k, ?_⟩
      rw [hd.int_inv]
      congr 1
      omega
    · cases h
  · cases h

theorem sliceBound_run {n y : Nat} (k : IntKind) (code : BoundsCode) (h : n ≤ y) (w : World) : (Instr.sliceBound (.int k (n : Int)) y code).run P w = .ok n w := by
  simp [Instr.sliceBound, asIntOf, show ((n : Int) ≤ (y : Int)) from by omega]

theorem bnd_inv {top n : Nat} {d : DV} (h : bnd top d = some n) {v : Value} (hd : DRel w S κ d v) : (∃ k, v = .int k (n : Int)) ∧ n ≤ top := by
  unfold bnd at h
  split at h
  · rename_i m hm
    split at h
    · rename_i hle
      cases h
      exact ⟨asNat_inv hm hd, hle⟩
    · cases h
  · cases h

theorem cutB_run {isS : Bool} {len cap : Nat} {lo hi mx : Option Operand} {f : Operand → DV} {g : Operand → Value} (hfg : ∀ o, DRel w S κ (f o) (g o)) {l h m : Nat}
    (hc : cutB len cap (lo.map f) (hi.map f) (mx.map f) = some (l, h, m)) (capc : Nat) (hcap : cap ≤ capc) (hlen : len ≤ cap) :
    ∃ m', (Instr.sliceBounds isS len capc (lo.map g) (hi.map g) (mx.map g)).run P w = .ok (l, h, m') w ∧ l ≤ h ∧ h ≤ m ∧ m ≤ m' ∧ m ≤ cap ∧ m' ≤ capc := by
  unfold cutB at hc
  cases hm : bndO cap cap (mx.map f) with
  | none => simp [hm] at hc
  | some m0 =>
    simp only [hm] at hc
    cases hh : (if (hi.map f).isNone && (mx.map f).isSome then none else bndO m0 len (hi.map f)) with
    | none => rw [hh] at hc; cases hc
    | some h0 =>
      simp only [hh] at hc
      cases hl : bndO h0 0 (lo.map f) with
      | none => simp [hl] at hc
      | some l0 =>
        simp only [hl, Option.some.injEq, Prod.mk.injEq] at hc
        obtain ⟨rfl, rfl, rfl⟩ := hc
        have hlo : l0 ≤ h0 ∧ ∀ c : BoundsCode, (match lo.map g with | some v => Instr.sliceBound v h0 c | none => pure 0 : Sem Nat).run P w = .ok l0 w := by
          cases lo with
          | none => simp [bndO] at hl; subst hl; exact ⟨Nat.zero_le _, fun _ => rfl⟩
          | some d =>
            obtain ⟨⟨k, hk⟩, hle⟩ := bnd_inv (by simpa [bndO] using hl) (hfg d)
            refine ⟨hle, fun c => ?_⟩
            simp only [Option.map_some, hk]
            exact sliceBound_run k c hle w
        cases mx with
        | none =>
          simp [bndO] at hm
          subst hm
          have hhi : h0 ≤ cap ∧ ((match hi.map g with | some v => Instr.sliceBound v capc (if isS then .sliceAcap else .sliceAlen) | none => pure len : Sem Nat).run P w = .ok h0 w) := by
            cases hi with
            | none => simp [bndO] at hh; subst hh; exact ⟨hlen, rfl⟩
            | some d =>
              obtain ⟨⟨k, hk⟩, hle⟩ := bnd_inv (by simpa [bndO] using hh) (hfg d)
              refine ⟨hle, ?_⟩
              simp only [Option.map_some, hk]
              exact sliceBound_run k _ (by omega) w
          refine ⟨capc, ?_, hlo.1, hhi.1, hcap, Nat.le_refl _, Nat.le_refl _⟩
          cases hi with
          | none =>
            have h2 := hhi.2
            simp only [Option.map_none, Sem.run_pure] at h2
            cases h2
            cases lo with
            | none =>
              have h3 := hlo.2 .sliceB
              simp only [Option.map_none, Sem.run_pure] at h3
              cases h3
              simp [Instr.sliceBounds]
            | some d =>
              have h3 := hlo.2 .sliceB
              simp only [Option.map_some] at h3
              simp [Instr.sliceBounds, h3]
          | some d' =>
            have h2 := hhi.2
            simp only [Option.map_some] at h2
            cases lo with
            | none =>
              have h3 := hlo.2 .sliceB
              simp only [Option.map_none, Sem.run_pure] at h3
              cases h3
              simp [Instr.sliceBounds, h2]
            | some d =>
              have h3 := hlo.2 .sliceB
              simp only [Option.map_some] at h3
              simp [Instr.sliceBounds, h2, h3]
        | some dm =>
          obtain ⟨⟨km, hkm⟩, hlem⟩ := bnd_inv (by simpa [bndO] using hm) (hfg dm)
          cases hi with
          | none => simp at hh
          | some dh =>
            obtain ⟨⟨kh, hkh⟩, hleh⟩ := bnd_inv (by simpa [bndO] using hh) (hfg dh)
            refine ⟨m0, ?_, hlo.1, hleh, Nat.le_refl _, hlem, by omega⟩
            have e1 := sliceBound_run (P := P) km (if isS then .slice3Acap else .slice3Alen) (show m0 ≤ capc by omega) w
            have e2 := sliceBound_run (P := P) kh .slice3B hleh w
            cases lo with
            | none =>
              have h3 := hlo.2 .sliceB
              simp only [Option.map_none, Sem.run_pure] at h3
              cases h3
              simp [Instr.sliceBounds, hkm, hkh, e1, e2]
            | some d =>
              have h3 := hlo.2 .slice3C
              simp only [Option.map_some] at h3
              simp [Instr.sliceBounds, hkm, hkh, e1, e2, h3]

theorem bytes_toList (s : List UInt8) : (⟨s.toArray⟩ : ByteArray).toList = s := by rw [ByteArray.toList_eq]

theorem eqGuard_int (op : BinOp) (t : TypeId) (x y : Operand) (k k' : IntKind) (m n : Int) : (eqGuard op t x y (.int k m) (.int k' n)).run P w = .ok () w := by
  cases op <;> rfl
theorem eqGuard_str (op : BinOp) (t : TypeId) (x y : Operand) (m n : ByteArray) : (eqGuard op t x y (.string m) (.string n)).run P w = .ok () w := by
  cases op <;> rfl

theorem evBin_sound {op : BinOp} {p q r : PV} {u v : Value} (h : evBin op p q = some r) (hp : PRel w S p u) (hq : PRel w S q v) (t : TypeId) (x y : Operand) :
    ∃ z, (do eqGuard op t x y u v; binOp op t u v : Sem Value).run P w = .ok z w ∧ PRel w S r z := by
  cases hp with
  | int k a =>
    cases hq with
    | int k' b =>
      simp only [Sem.run_bind, eqGuard_int, Result.andThen_ok]
      cases op <;> simp only [evBin] at h <;> simp only [binOp]
      case shl | shr =>
        split at h
        · cases h
        · rename_i hb
          cases h
          exact ⟨_, by simp [Op.shift, hb], .int _ _⟩
      all_goals
        split at h
        · rename_i hk
          subst hk
          simp only [ne_eq, not_true_eq_false, if_false]
          first
            | (cases h; exact ⟨_, rfl, .int _ _⟩)
            | (cases h; exact ⟨_, rfl, .bool _⟩)
            | (split at h
               · cases h
               · rename_i hb; cases h; exact ⟨_, by simp [Op.intDiv, hb], .int _ _⟩)
            | cases h
        · cases h
    | _ => cases op <;> simp [evBin] at h
  | str a =>
    cases hq with
    | str b =>
      simp only [Sem.run_bind, eqGuard_str, Result.andThen_ok]
      cases op <;> simp only [evBin] at h <;> simp only [binOp] <;> first
        | (cases h; done)
        | (split at h
           · rename_i hle
             cases h
             have hsz : ¬ (((⟨a.toArray⟩ : ByteArray).size + (⟨b.toArray⟩ : ByteArray).size : Nat) : Int) > IntKind.i64.max := by
               have e1 : (⟨a.toArray⟩ : ByteArray).size = a.length := rfl
               have e2 : (⟨b.toArray⟩ : ByteArray).size = b.length := rfl
               rw [e1, e2]
               have : IntKind.i64.max = 9223372036854775807 := by decide
               rw [this]
               omega
             refine ⟨.string (⟨a.toArray⟩ ++ ⟨b.toArray⟩), by simp only [Op.stringOp, if_neg hsz]; rfl, ?_⟩
             have e : (⟨a.toArray⟩ : ByteArray) ++ ⟨b.toArray⟩ = ⟨(a ++ b).toArray⟩ := by
               apply ByteArray.ext
               simp
             rw [e]
             exact .str _
           · cases h)
        | (cases h; refine ⟨_, by simp only [Op.stringOp, bytes_toList]; rfl, ?_⟩; exact .bool _)
    | _ => cases op <;> simp [evBin] at h
  | _ => cases op <;> simp [evBin] at h

theorem underlying_info {t : Nat} {d : TypeDesc} (h : P.underlying t = some d) : ∃ i, P.info? t = some i := by
  unfold Program.underlying at h
  cases hi : P.info? t with
  | none => simp [hi] at h
  | some i => exact ⟨i, rfl⟩

theorem part_one {t : Nat} {d : TypeDesc} (hd : P.underlying t = some d) (hr : d.isRow = false) (cs : List Value) (off : Nat) (v : Value) (hv : cs[off]? = some v) (w : World) : (part t cs.toArray off).run P w = .ok v w := by
  obtain ⟨i, hi⟩ := underlying_info hd
  exact (part_run (n := none) (by simp [ldn, hd, hi, hr]) cs off w).1 v rfl hv

theorem flat_eq (us vs : List Value) (w : World) : ∀ (fs : List Field) (i : Nat) (ks : List EK) (ps qs : List PV) (b : Bool), flatKs P i fs = some ks → eqCells ks ps qs = some b →
    (∀ (j : Nat) (c : PV), ps[j]? = some c → ∃ v, us[i + j]? = some v ∧ PRel w S c v) → (∀ (j : Nat) (c : PV), qs[j]? = some c → ∃ v, vs[i + j]? = some v ∧ PRel w S c v) →
    ∀ d, (Op.eqFields (d + 1) us.toArray vs.toArray fs).run P w = .ok b w
  | [], i, ks, ps, qs, b, hk, he, h1, h2, d => by
    simp only [flatKs, Option.some.injEq] at hk
    subst hk
    cases ps <;> cases qs <;> simp [eqCells] at he
    subst he
    rfl
  | f :: r, i, ks, ps, qs, b, hk, he, h1, h2, d => by
    simp only [flatKs] at hk
    split at hk
    · rename_i hf
      obtain ⟨ho, hn⟩ := hf
      have main : ∀ (ks' : List EK) (p q : PV) (ps' qs' : List PV) (t b' : Bool), flatKs P (i + 1) r = some ks' → eqCells ks' ps' qs' = some b' → ps = p :: ps' → qs = q :: qs' → b = (t && b') →
          (∀ u v, PRel w S p u → PRel w S q v → (Op.equalIn (d + 1) f.type u v).run P w = .ok t w) → (∃ dd, P.underlying f.type = some dd ∧ dd.isRow = false) →
          (Op.eqFields (d + 1) us.toArray vs.toArray (f :: r)).run P w = .ok b w := by
        intro ks' p q ps' qs' t b' hk' he' ep eq eb heq ⟨dd, hdd, hrr⟩
        subst ep eq eb
        obtain ⟨u, hu, hpu⟩ := h1 0 p rfl
        obtain ⟨v, hv, hqv⟩ := h2 0 q rfl
        have ih := flat_eq us vs w r (i + 1) ks' ps' qs' b' hk' he' (fun j c hc => by have := h1 (j + 1) c (by simpa using hc); rwa [show i + (j + 1) = i + 1 + j from by omega] at this)
          (fun j c hc => by have := h2 (j + 1) c (by simpa using hc); rwa [show i + (j + 1) = i + 1 + j from by omega] at this) d
        rw [Nat.add_zero] at hu hv
        simp only [Op.eqFields, if_pos hn, Sem.run_bind, ho, part_one hdd hrr us i u hu w, part_one hdd hrr vs i v hv w, Result.andThen_ok, heq u v hpu hqv]
        cases t
        · simp
        · simpa using ih
      split at hk
      · rename_i k hu
        simp only [Option.map_eq_some_iff] at hk
        obtain ⟨ks', hk', rfl⟩ := hk
        cases ps with
        | nil => simp [eqCells] at he
        | cons p ps' =>
          cases qs with
          | nil => cases p <;> simp [eqCells] at he
          | cons q qs' =>
            cases p <;> cases q <;> simp only [eqCells] at he <;> first | (cases he; done) | skip
            split at he
            · rename_i hkk
              subst hkk
              simp only [Option.map_eq_some_iff] at he
              obtain ⟨b', he', rfl⟩ := he
              exact main ks' _ _ ps' qs' _ b' hk' he' rfl rfl rfl (fun u v hu' hv' => by cases hu'; cases hv'; exact run_equalIn_int w d f.type _ _ _ _ hu) ⟨_, hu, rfl⟩
            · cases he
      · rename_i hu
        simp only [Option.map_eq_some_iff] at hk
        obtain ⟨ks', hk', rfl⟩ := hk
        cases ps with
        | nil => simp [eqCells] at he
        | cons p ps' =>
          cases qs with
          | nil => cases p <;> simp [eqCells] at he
          | cons q qs' =>
            cases p <;> cases q <;> simp only [eqCells] at he <;> first | (cases he; done) | skip
            simp only [Option.map_eq_some_iff] at he
            obtain ⟨b', he', rfl⟩ := he
            exact main ks' _ _ ps' qs' _ b' hk' he' rfl rfl rfl (fun u v hu' hv' => by cases hu'; cases hv'; exact run_equalIn_bool' w d f.type _ _ hu) ⟨_, hu, rfl⟩
      · rename_i hu
        simp only [Option.map_eq_some_iff] at hk
        obtain ⟨ks', hk', rfl⟩ := hk
        cases ps with
        | nil => simp [eqCells] at he
        | cons p ps' =>
          cases qs with
          | nil => cases p <;> simp [eqCells] at he
          | cons q qs' =>
            cases p <;> cases q <;> simp only [eqCells] at he <;> first | (cases he; done) | skip
            simp only [Option.map_eq_some_iff] at he
            obtain ⟨b', he', rfl⟩ := he
            exact main ks' _ _ ps' qs' _ b' hk' he' rfl rfl rfl (fun u v hu' hv' => by cases hu'; cases hv'; rw [run_equalIn_string w d f.type _ _ hu, bytes_toList, bytes_toList]) ⟨_, hu, rfl⟩
      · cases hk
    · cases hk

theorem toArray_map_eval (l : List Operand) (f : Operand → Value) : (l.toArray.map f) = (l.map f).toArray := by simp

/-- What the machine's operation yields, where the symbolic step has a value. -/
def Yields (P : Program) (x : Fx) (st : St) (κ : Nat → Nat) (a : Act) (w : World) (o : Oper) (d : DV) : Prop :=
  ∃ v, (execOp a.eval o).run P w = .ok (.value v) w ∧ DRel w (x.S st κ) κ d v

variable {x : Fx} {st : St} {a : Act}

theorem getRow {rows : List (List PV)} {i : Nat} {r : List PV} (h : rows[i]? = some r) {off : Nat} {c : PV} (hc : r[off]? = some c) : rowAt rows i off = some c := by simp [rowAt, h, hc]

theorem ldRow_pp {n : Option Nat} {t : Nat} (hn : ldn P t = some n) {r : List PV} {off b base : Nat} {d : DV} (h : ldRow n r off .p (fun l => .p (.agg l)) = some d)
    (hcell : ∀ (j : Nat) (c : PV), r[j]? = some c → ∃ v, w.cell? ⟨b, base + j, none⟩ = some v ∧ PRel w S c v) :
    ∃ v, (Instr.loadAt t (.pointer (some ⟨b, base + off, none⟩))).run P w = .ok v w ∧ DRel w S κ d v := by
  unfold ldRow at h
  cases n with
  | none =>
    simp only [Option.map_eq_some_iff] at h
    obtain ⟨c, hc, rfl⟩ := h
    obtain ⟨v, h1, h2⟩ := hcell off c hc
    exact ⟨v, by simp only [Instr.loadAt, Instr.sureAddr, Sem.run_bind, Sem.run_pure, Result.andThen_ok]; exact (loadVar_run hn b (base + off) w).1 v rfl h1, .p _ _ h2⟩
  | some m =>
    simp only at h
    split at h
    · rename_i hle
      cases h
      have hex : ∀ j, j < m → ∃ v, w.cell? ⟨b, base + off + j, none⟩ = some v ∧ ∀ c, r[off + j]? = some c → PRel w S c v := by
        intro j hj
        obtain ⟨v, h1, h2⟩ := hcell (off + j) (r[off + j]'(by omega)) (List.getElem?_eq_getElem (by omega))
        refine ⟨v, by rw [← h1]; congr 2; omega, fun c hc => ?_⟩
        rw [List.getElem?_eq_getElem (by omega)] at hc
        cases hc
        exact h2
      let f : Nat → Value := fun j => if h : j < m then (hex j h).choose else undef
      have hf : ∀ j (hj : j < m), w.cell? ⟨b, base + off + j, none⟩ = some (f j) ∧ ∀ c, r[off + j]? = some c → PRel w S c (f j) := by
        intro j hj
        simp only [f, dif_pos hj]
        exact (hex j hj).choose_spec
      refine ⟨.agg ((List.range m).map f).toArray, ?_, ?_⟩
      · simp only [Instr.loadAt, Instr.sureAddr, Sem.run_bind, Sem.run_pure, Result.andThen_ok]
        refine (loadVar_run hn b (base + off) w).2 m _ rfl (by simp) (fun j v hv => ?_)
        simp only [List.getElem?_map, Option.map_eq_some_iff] at hv
        obtain ⟨k, hk, rfl⟩ := hv
        obtain ⟨hk1, rfl⟩ := List.getElem?_eq_some_iff.1 hk
        simp only [List.length_range] at hk1
        simp only [List.getElem_range]
        exact (hf j hk1).1
      · refine .p _ _ (.agg _ _ (by simp; omega) (fun j c v hc hv => ?_))
        simp only [List.getElem?_map, Option.map_eq_some_iff] at hv
        obtain ⟨k, hk, rfl⟩ := hv
        obtain ⟨hk1, rfl⟩ := List.getElem?_eq_some_iff.1 hk
        simp only [List.length_range] at hk1
        simp only [List.getElem_range]
        refine (hf j hk1).2 c ?_
        simp only [List.getElem?_take, if_pos hk1, List.getElem?_drop] at hc
        exact hc
    · cases h

theorem ldRow_m {n : Option Nat} {t : Nat} (hn : ldn P t = some n) {r : List DV} {off b base : Nat} {d : DV} (h : ldRow n r off id mkAgg = some d)
    (hcell : ∀ (j : Nat) (c : DV), r[j]? = some c → ∃ v, w.cell? ⟨b, base + j, none⟩ = some v ∧ DRel w S κ c v) :
    ∃ v, (Instr.loadAt t (.pointer (some ⟨b, base + off, none⟩))).run P w = .ok v w ∧ DRel w S κ d v := by
  unfold ldRow at h
  cases n with
  | none =>
    simp only [Option.map_eq_some_iff] at h
    obtain ⟨c, hc, rfl⟩ := h
    obtain ⟨v, h1, h2⟩ := hcell off c hc
    exact ⟨v, by simp only [Instr.loadAt, Instr.sureAddr, Sem.run_bind, Sem.run_pure, Result.andThen_ok]; exact (loadVar_run hn b (base + off) w).1 v rfl h1, h2⟩
  | some m =>
    simp only at h
    split at h
    · rename_i hle
      cases h
      have hex : ∀ j, j < m → ∃ v, w.cell? ⟨b, base + off + j, none⟩ = some v ∧ ∀ c, r[off + j]? = some c → DRel w S κ c v := by
        intro j hj
        obtain ⟨v, h1, h2⟩ := hcell (off + j) (r[off + j]'(by omega)) (List.getElem?_eq_getElem (by omega))
        refine ⟨v, by rw [← h1]; congr 2; omega, fun c hc => ?_⟩
        rw [List.getElem?_eq_getElem (by omega)] at hc
        cases hc
        exact h2
      let f : Nat → Value := fun j => if h : j < m then (hex j h).choose else undef
      have hf : ∀ j (hj : j < m), w.cell? ⟨b, base + off + j, none⟩ = some (f j) ∧ ∀ c, r[off + j]? = some c → DRel w S κ c (f j) := by
        intro j hj
        simp only [f, dif_pos hj]
        exact (hex j hj).choose_spec
      refine ⟨.agg ((List.range m).map f).toArray, ?_, ?_⟩
      · simp only [Instr.loadAt, Instr.sureAddr, Sem.run_bind, Sem.run_pure, Result.andThen_ok]
        refine (loadVar_run hn b (base + off) w).2 m _ rfl (by simp) (fun j v hv => ?_)
        simp only [List.getElem?_map, Option.map_eq_some_iff] at hv
        obtain ⟨k, hk, rfl⟩ := hv
        obtain ⟨hk1, rfl⟩ := List.getElem?_eq_some_iff.1 hk
        simp only [List.length_range] at hk1
        simp only [List.getElem_range]
        exact (hf j hk1).1
      · refine mkAgg_rel (by simp; omega) (fun j c v hc hv => ?_)
        simp only [List.getElem?_map, Option.map_eq_some_iff] at hv
        obtain ⟨k, hk, rfl⟩ := hv
        obtain ⟨hk1, rfl⟩ := List.getElem?_eq_some_iff.1 hk
        simp only [List.length_range] at hk1
        simp only [List.getElem_range]
        refine (hf j hk1).2 c ?_
        simp only [List.getElem?_take, if_pos hk1, List.getElem?_drop] at hc
        exact hc
    · cases h

theorem y_ld (hs : Sat x st κ a w) {t : Nat} {n : Option Nat} (hn : ldn P t = some n) (y : Operand) {d : DV} (h : evOp st (.ld n (opd y)) = some d) :
    ∃ v, (Instr.loadAt t (a.eval y)).run P w = .ok v w ∧ DRel w (x.S st κ) κ d v := by
  have hy := hs.ev y
  simp only [evOp] at h
  generalize a.eval y = u at hy
  split at h
  · rename_i sz rows i off he
    rw [he] at hy
    cases hy with | p _ _ hy => cases hy with | pp _ _ _ _ b base f h1 h2 h3 h4 h5 =>
    split at h
    · rename_i r hr
      refine ldRow_pp hn h (fun j c hc => ⟨f i j, ?_, h5 i j c (getRow hr hc)⟩)
      exact (h4 i j c (getRow hr hc)).1
    · cases h
  · rename_i k sz i off he
    rw [he] at hy
    cases hy
    split at h
    · rename_i ob hob
      obtain ⟨wf, cur, e, hb, hlen, hc⟩ := hs.H k ob hob
      split at h
      · rename_i hsz
        subst hsz
        split at h
        · rename_i rows hrows
          split at h
          · rename_i r hr
            refine ldRow_pp hn h (fun j c hc' => ?_)
            obtain ⟨v, g1, g2, g3⟩ := hc i j (.p c) (by rw [hrows]; simp [Rows.at, getRow hr hc'])
            cases g3 with | p _ _ g3 =>
            exact ⟨v, by simp [World.cell?, hb, g1], g3⟩
          · cases h
        · rename_i rows hrows
          split at h
          · rename_i r hr
            refine ldRow_m hn h (fun j c hc' => ?_)
            obtain ⟨v, g1, g2, g3⟩ := hc i j c (by rw [hrows]; simp [Rows.at, rowAt, hr, hc'])
            exact ⟨v, by simp [World.cell?, hb, g1], g3⟩
          · cases h
      · cases h
    · cases h
  · cases h

theorem fold_set (cs : List Value) : ∀ (off k : Nat) (arr : Array Value), ((cs.zipIdx k).foldl (fun acc p => acc.setIfInBounds (off + p.2) p.1) arr).size = arr.size ∧
    ∀ i, ((cs.zipIdx k).foldl (fun acc p => acc.setIfInBounds (off + p.2) p.1) arr)[i]? = if off + k ≤ i ∧ i < off + k + cs.length ∧ i < arr.size then cs[i - (off + k)]? else arr[i]? := by
  induction cs with
  | nil => intro off k arr; refine ⟨rfl, fun i => ?_⟩; rw [if_neg (by simp only [List.length_nil]; omega)]; rfl
  | cons c r ih =>
    intro off k arr
    simp only [List.zipIdx_cons, List.foldl_cons]
    obtain ⟨h1, h2⟩ := ih off (k + 1) (arr.setIfInBounds (off + k) c)
    refine ⟨by rw [h1]; simp, fun i => ?_⟩
    rw [h2 i]
    simp only [Array.size_setIfInBounds, List.length_cons]
    by_cases hi : i = off + k
    · subst hi
      rw [if_neg (by omega)]
      by_cases hs : off + k < arr.size
      · rw [if_pos ⟨by omega, by omega, hs⟩]
        simp [hs]
      · rw [if_neg (by omega)]
        simp [hs]
    · by_cases hr : off + (k + 1) ≤ i ∧ i < off + (k + 1) + r.length ∧ i < arr.size
      · rw [if_pos hr, if_pos ⟨by omega, by omega, hr.2.2⟩]
        obtain ⟨m, hm⟩ : ∃ m, i - (off + k) = m + 1 := ⟨i - (off + k) - 1, by omega⟩
        rw [hm, List.getElem?_cons_succ]
        congr 1
        omega
      · rw [if_neg hr, if_neg (by omega)]
        simp [Ne.symm hi]

def RowRel (w : World) (S : Nat → Prop) (κ : Nat → Nat) (cs : List DV) (vs : Array Value) : Prop :=
  cs.length = vs.size ∧ ∀ (i : Nat) (c : DV) (v : Value), cs[i]? = some c → vs[i]? = some v → DRel w S κ c v

theorem fill_rel (place : Nat → Option (Nat × Nat)) : ∀ (ps : List (Nat × Nat × DV)) (vs : List (Nat × Value)) (z cs : List DV) (arr : Array Value), fillRow z ps = some cs → RowRel w S κ z arr →
    ps.length = vs.length → (∀ (i : Nat) (p : Nat × Nat × DV) (v : Nat × Value), ps[i]? = some p → vs[i]? = some v → place v.1 = some (p.1, p.2.1) ∧ DRel w S κ p.2.2 v.2) →
    ∃ arr', Instr.fill place arr vs = some arr' ∧ RowRel w S κ cs arr'
  | [], vs, z, cs, arr, h, hz, hl, hr => by
    simp only [fillRow, Option.some.injEq] at h
    subst h
    have : vs = [] := List.eq_nil_of_length_eq_zero hl.symm
    subst this
    exact ⟨arr, rfl, hz⟩
  | (off, n, d) :: ps, vs, z, cs, arr, h, hz, hl, hr => by
    cases vs with
    | nil => cases hl
    | cons v vs =>
      simp only [fillRow] at h
      split at h
      · rename_i hc
        obtain ⟨h1, h2, h3⟩ := hc
        obtain ⟨g1, g2⟩ := hr 0 _ _ rfl rfl
        obtain ⟨k1, k2⟩ := cells_rel g2 h3
        obtain ⟨i, v⟩ := v
        simp only at g1 g2 k1 k2
        have hsz : v.cells.size = n := by rw [← k1, h1]
        have hfit : ¬ (off + v.cells.size > arr.size) := by rw [hsz]; have := hz.1; omega
        have fs := fold_set v.cells.toList off 0 arr
        simp only [Nat.add_zero, Array.length_toList] at fs
        have ih := fill_rel place ps vs (z.take off ++ d.cells ++ z.drop (off + n)) cs ((v.cells.toList.zipIdx 0).foldl (fun acc p => acc.setIfInBounds (off + p.2) p.1) arr) h
          (by
            refine ⟨?_, fun j c u hc hu => ?_⟩
            · rw [fs.1, ← hz.1]; simp only [List.length_append, List.length_take, List.length_drop, h1]; omega
            · rw [fs.2 j] at hu
              have hlt : (z.take off).length = off := by simp; omega
              by_cases hj : j < off
              · rw [if_neg (by omega)] at hu
                rw [List.append_assoc, List.getElem?_append_left (by omega)] at hc
                exact hz.2 j c u (by simpa [List.getElem?_take, hj] using hc) hu
              · by_cases hj2 : j < off + n
                · rw [if_pos ⟨by omega, by omega, by have := hz.1; omega⟩] at hu
                  rw [List.getElem?_append_left (by simp only [List.length_append, hlt, h1]; omega), List.getElem?_append_right (by omega), hlt] at hc
                  exact k2 (j - off) c u hc (by simpa using hu)
                · rw [if_neg (by omega)] at hu
                  rw [List.getElem?_append_right (by simp only [List.length_append, hlt, h1]; omega), List.getElem?_drop] at hc
                  refine hz.2 j c u ?_ hu
                  rw [← hc]
                  congr 1
                  simp only [List.length_append, hlt, h1]
                  omega)
          (by simpa using hl) (fun i p q hp hq => hr (i + 1) p q (by simpa using hp) (by simpa using hq))
        obtain ⟨arr', h4, h5⟩ := ih
        refine ⟨arr', ?_, h5⟩
        rw [← h4]
        simp only [Instr.fill, g1]
        rw [if_neg (by simp [hsz]; rw [hsz] at hfit; omega)]
        congr 1
        rw [← Array.foldl_toList, Array.toList_zipIdx]
      · cases h

theorem mapM_pvOf {l : List Value} {z : List PV} (h : l.mapM pvOf = some z) : z.length = l.length ∧ ∀ (i : Nat) (c : PV) (v : Value), z[i]? = some c → l[i]? = some v → PRel w S c v := by
  induction l generalizing z with
  | nil => simp at h; subst h; exact ⟨rfl, fun i c v hc => by simp at hc⟩
  | cons a r ih =>
    simp only [List.mapM_cons, Option.bind_eq_bind, Option.bind_eq_some_iff, Option.pure_def, Option.some.injEq] at h
    obtain ⟨p, hp, q, hq, rfl⟩ := h
    obtain ⟨h1, h2⟩ := ih hq
    refine ⟨by simp [h1], fun i c v hc hv => ?_⟩
    cases i with
    | zero => simp at hc hv; subst hc hv; exact pvOf_rel hp
    | succ i => exact h2 i c v (by simpa using hc) (by simpa using hv)

theorem zeroOf_inv {t : Nat} {z : List PV} (h : zeroOf P t = some z) : ∃ i zv, P.info? t = some i ∧ i.zero = some zv ∧ zv.cells.toList.mapM pvOf = some z := by
  unfold zeroOf at h
  split at h
  · rename_i i hi
    split at h
    · rename_i zv hz; exact ⟨i, zv, hi, hz, h⟩
    · cases h
  · cases h

theorem mapM_some_get {α β : Type} {f : α → Option β} {l : List α} {r : List β} (h : l.mapM f = some r) : r.length = l.length ∧ ∀ (i : Nat) (x : α) (y : β), l[i]? = some x → r[i]? = some y → f x = some y := by
  induction l generalizing r with
  | nil => simp at h; subst h; exact ⟨rfl, fun i x y hx => by simp at hx⟩
  | cons a t ih =>
    simp only [List.mapM_cons, Option.bind_eq_bind, Option.bind_eq_some_iff, Option.pure_def, Option.some.injEq] at h
    obtain ⟨p, hp, q, hq, rfl⟩ := h
    obtain ⟨h1, h2⟩ := ih hq
    refine ⟨by simp [h1], fun i x y hx hy => ?_⟩
    cases i with
    | zero => simp at hx hy; subst hx hy; exact hp
    | succ i => exact h2 i x y (by simpa using hx) (by simpa using hy)

end
end Go.Dl
