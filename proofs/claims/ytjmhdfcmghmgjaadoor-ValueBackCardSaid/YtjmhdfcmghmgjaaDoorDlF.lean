/- Each operation with a value alone: the machine yields what the symbolic step says. -/
import Derived.Test.YtjmhdfcmghmgjaaDoorDlE
import Derived.Laws.Small
import Derived.Lib.SliceRun
set_option linter.unusedVariables false
set_option linter.unusedSimpArgs false
namespace Go.Dl
section
variable {w : World} {S : Nat → Prop} {κ : Nat → Nat} {P : Program} {x : Fx} {st : St} {a : Act}

theorem neq_slice_nil (w : World) (t e : TypeId) (a : Option Addr) (n c : Nat) (h : P.underlying t = some (.slice e)) :
    (binOp .neq t (.slice a n c) (.slice none 0 0)).run P w = .ok (.bool (!a.isNone)) w := by
  simp only [binOp]
  simp [Op.equal, Op.maxDepth, Lib.run_equalIn_slice_nil w 9999 t e a n c 0 0 h]

theorem y_isnil (hs : Sat x st κ a w) {e : TypeId} {t : TypeId} (ht : P.underlying t = some (.slice e)) (neg : Bool) (y : Operand) {d : DV} (h : evOp st (.isnil neg (opd y)) = some d) :
    ∃ v, (do eqGuard (if neg then .neq else .eql) t y (.const (.slice none 0 0)) (a.eval y) (.slice none 0 0); binOp (if neg then .neq else .eql) t (a.eval y) (.slice none 0 0) : Sem Value).run P w = .ok v w ∧ DRel w S κ d v := by
  have hy := hs.ev y
  simp only [evOp] at h
  generalize a.eval y = u at hy
  split at h
  · rename_i b sz rows sp he
    cases h
    rw [he] at hy
    cases hy with | p _ _ hy => 
    cases hy with
    | slnil o sz ho =>
      have hb : b = true := by cases b <;> simp_all
      subst hb
      refine ⟨.bool (true != neg), ?_, .p _ _ (.bool _)⟩
      cases neg
      · simp [eqGuard, Lib.run_eql_slice_nil w t e none 0 0 0 0 ht]
      · simp [eqGuard, neq_slice_nil w t e none 0 0 ht]
    | sl o ho _ _ _ b' off cap f =>
      have hb : b = false := by cases b <;> simp_all
      subst hb
      refine ⟨.bool (false != neg), ?_, .p _ _ (.bool _)⟩
      cases neg
      · simp [eqGuard, Lib.run_eql_slice_nil w t e (some ⟨b', off, none⟩) rows.length cap 0 0 ht]
      · simp [eqGuard, neq_slice_nil w t e (some ⟨b', off, none⟩) rows.length cap ht]
  · cases h

theorem y_beq (hs : Sat x st κ a w) {t : TypeId} (ht : P.underlying t = some .bool) (neg : Bool) (y z : Operand) {d : DV} (h : evOp st (.beq neg (opd y) (opd z)) = some d) :
    ∃ v, (do eqGuard (if neg then .neq else .eql) t y z (a.eval y) (a.eval z); binOp (if neg then .neq else .eql) t (a.eval y) (a.eval z) : Sem Value).run P w = .ok v w ∧ DRel w S κ d v := by
  have hy := hs.ev y
  have hz := hs.ev z
  simp only [evOp] at h
  split at h
  · rename_i p q hp hq
    cases h
    rw [hp] at hy
    rw [hq] at hz
    rw [hy.bool_inv, hz.bool_inv]
    refine ⟨.bool ((p == q) != neg), ?_, .p _ _ (.bool _)⟩
    cases neg
    · simp [eqGuard, run_eql_bool w t p q ht]
    · simp [eqGuard, run_neq_bool w t p q ht]
  · cases h

theorem y_eqs (hs : Sat x st κ a w) {t : TypeId} {ks : List EK} (ht : flatEq P t = some ks) (neg : Bool) (y z : Operand) {d : DV} (h : evOp st (.eqs neg ks (opd y) (opd z)) = some d) :
    ∃ v, (do eqGuard (if neg then .neq else .eql) t y z (a.eval y) (a.eval z); binOp (if neg then .neq else .eql) t (a.eval y) (a.eval z) : Sem Value).run P w = .ok v w ∧ DRel w S κ d v := by
  have hy := hs.ev y
  have hz := hs.ev z
  unfold flatEq at ht
  split at ht
  · rename_i fs hu
    split at ht
    · rename_i hc
      simp only [evOp] at h
      split at h
      · rename_i p q hp hq
        simp only [Option.map_eq_some_iff] at h
        obtain ⟨b, hb, rfl⟩ := h
        rw [hp] at hy
        rw [hq] at hz
        generalize a.eval y = u at hy ⊢
        generalize a.eval z = v at hz ⊢
        cases hy with | p _ _ hy => cases hz with | p _ _ hz =>
        cases hy with | agg _ us hl1 hr1 => cases hz with | agg _ vs hl2 hr2 =>
        have hfo : P.fieldsOf t = fs := by simp [Program.fieldsOf, hu]
        have hun : P.underlying t = some (.struct (P.fieldsOf t)) := by rw [hfo]; exact hu
        have hb' := flat_eq (P := P) (S := x.S st κ) us vs w fs.toList 0 ks p q b ht hb
          (fun j c hc => by
            have hlt : j < us.length := by rw [← hl1]; exact (List.getElem?_eq_some_iff.1 hc).1
            exact ⟨us[j], by rw [Nat.zero_add]; exact List.getElem?_eq_getElem hlt, hr1 j c _ hc (List.getElem?_eq_getElem hlt)⟩)
          (fun j c hc => by
            have hlt : j < vs.length := by rw [← hl2]; exact (List.getElem?_eq_some_iff.1 hc).1
            exact ⟨vs[j], by rw [Nat.zero_add]; exact List.getElem?_eq_getElem hlt, hr2 j c _ hc (List.getElem?_eq_getElem hlt)⟩)
        have heq : (Op.equalIn 10000 t (.agg us.toArray) (.agg vs.toArray)).run P w = .ok b w := by
          rw [show 10000 = 9998 + 1 + 1 from rfl, run_equalIn_struct w _ t _ _ hun hc.1, hfo]
          exact hb' 9998
        refine ⟨.bool (b != neg), ?_, .p _ _ (.bool _)⟩
        simp only [Sem.run_bind, run_eqGuard_agg w _ t y z _ _ hc.2, Result.andThen_ok]
        cases neg
        · simp [run_eql_struct, heq]
        · simp [run_neq_struct, heq]
      · cases h
    · cases ht
  · cases ht

theorem y_un (hs : Sat x st κ a w) (op : UnOp) (y : Operand) {d : DV} (h : evOp st (.un op (opd y)) = some d) : ∃ v, (Op.unary op (a.eval y)).run P w = .ok v w ∧ DRel w S κ d v := by
  have hy := hs.ev y
  simp only [evOp] at h
  split at h
  · rename_i b he
    split at h
    · rename_i ho
      cases h
      subst ho
      rw [he] at hy
      rw [hy.bool_inv]
      exact ⟨_, rfl, .p _ _ (.bool _)⟩
    · cases h
  · rename_i k n he
    split at h
    · rename_i ho
      cases h
      subst ho
      rw [he] at hy
      rw [hy.int_inv]
      exact ⟨_, rfl, .p _ _ (.int _ _)⟩
    · cases h
  · cases h

theorem y_faddr (hs : Sat x st κ a w) {s : TypeId} {fs : Array Field} (hu : P.underlying s = some (.struct fs)) {f n : Nat} {fd : Field} (hf : fs[f]? = some fd) (hn : sizeT P fd.type = some n) (hn0 : n ≠ 0) (y : Operand) {d : DV}
    (h : evOp st (.faddr fd.offset (opd y)) = some d) : ∃ v, (Instr.fieldAt s (a.eval y) f).run P w = .ok v w ∧ DRel w (x.S st κ) κ d v := by
  have hy := hs.ev y
  obtain ⟨i, hi, rfl⟩ := sizeT_some hn
  have run : ∀ b o, (Instr.fieldAt s (.pointer (some ⟨b, o, none⟩)) f).run P w = .ok (.pointer (some ⟨b, o + fd.offset, none⟩)) w := by
    intro b o
    simp [Instr.fieldAt, run_underlying hu, hf, Instr.sureAddr, fieldPlace, run_sizeOf hi, hn0, Addr.add_mid]
  simp only [evOp] at h
  generalize a.eval y = u at hy
  split at h
  · rename_i k sz i off he
    cases h
    rw [he] at hy
    cases hy
    exact ⟨_, run _ _, by rw [Nat.add_assoc]; exact .ptr _ _ _ _⟩
  · rename_i sz rows i off he
    cases h
    rw [he] at hy
    cases hy with | p _ _ hy => cases hy with | pp _ _ _ _ b base f h1 h2 h3 h4 h5 =>
    exact ⟨_, run _ _, by rw [Nat.add_assoc]; exact .p _ _ (.pp _ _ _ _ _ _ _ h1 h2 h3 h4 h5)⟩
  · cases h

theorem y_fld (hs : Sat x st κ a w) {s : TypeId} {fs : Array Field} (hu : P.underlying s = some (.struct fs)) {f : Nat} {n : Option Nat} {fd : Field} (hf : fs[f]? = some fd) (hn : ldn P fd.type = some n) (y : Operand) {d : DV}
    (h : evOp st (.fld fd.offset n (opd y)) = some d) : ∃ v, (Instr.field s (a.eval y) f).run P w = .ok v w ∧ DRel w (x.S st κ) κ d v := by
  have hy := hs.ev y
  have run : ∀ vs v, (part fd.type vs fd.offset).run P w = .ok v w → (Instr.field s (.agg vs) f).run P w = .ok v w := by
    intro vs v hv
    simp [Instr.field, run_underlying hu, hf, asAgg, hv]
  simp only [evOp] at h
  generalize a.eval y = u at hy
  split at h
  · rename_i cs he
    rw [he] at hy
    cases hy with | p _ _ hy => cases hy with | agg _ vs hl hr =>
    unfold ldRow at h
    cases n with
    | none =>
      simp only [Option.map_eq_some_iff] at h
      obtain ⟨c, hc, rfl⟩ := h
      have hlt : fd.offset < vs.length := by rw [← hl]; exact (List.getElem?_eq_some_iff.1 hc).1
      exact ⟨_, run _ _ ((part_run hn vs fd.offset w).1 _ rfl (List.getElem?_eq_getElem hlt)), .p _ _ (hr _ _ _ hc (List.getElem?_eq_getElem hlt))⟩
    | some m =>
      simp only at h
      split at h
      · rename_i hle
        cases h
        refine ⟨_, run _ _ ((part_run hn vs fd.offset w).2 m rfl (by omega)), .p _ _ (.agg _ _ (by simp [hl]) (fun i c v hc hv => ?_))⟩
        rw [List.getElem?_take] at hc hv
        by_cases him : i < m
        · rw [if_pos him, List.getElem?_drop] at hc hv
          exact hr _ _ _ hc hv
        · rw [if_neg him] at hc; cases hc
      · cases h
  · rename_i cs he
    rw [he] at hy
    cases hy with | agg _ vs hl hr =>
    unfold ldRow at h
    cases n with
    | none =>
      simp only [Option.map_eq_some_iff] at h
      obtain ⟨c, hc, rfl⟩ := h
      have hlt : fd.offset < vs.length := by rw [← hl]; exact (List.getElem?_eq_some_iff.1 hc).1
      exact ⟨_, run _ _ ((part_run hn vs fd.offset w).1 _ rfl (List.getElem?_eq_getElem hlt)), hr _ _ _ hc (List.getElem?_eq_getElem hlt)⟩
    | some m =>
      simp only at h
      split at h
      · rename_i hle
        cases h
        refine ⟨_, run _ _ ((part_run hn vs fd.offset w).2 m rfl (by omega)), mkAgg_rel (by simp [hl]) (fun i c v hc hv => ?_)⟩
        rw [List.getElem?_take] at hc hv
        by_cases him : i < m
        · rw [if_pos him, List.getElem?_drop] at hc hv
          exact hr _ _ _ hc hv
        · rw [if_neg him] at hc; cases hc
      · cases h
  · cases h

theorem y_iaddr (hs : Sat x st κ a w) {t e : TypeId} (hu : P.underlying t = some (.slice e)) {n : Nat} (hn : sizeT P e = some n) (y z : Operand) {d : DV}
    (h : evOp st (.iaddr n (opd y) (opd z)) = some d) : ∃ v, (Instr.indexAt t (a.eval y) (a.eval z)).run P w = .ok v w ∧ DRel w (x.S st κ) κ d v := by
  have hy := hs.ev y
  have hz := hs.ev z
  obtain ⟨i, hi, rfl⟩ := sizeT_some hn
  have run : ∀ (b o len cap : Nat) (k : IntKind) (m : Int), (0 : Int) ≤ m → m < (len : Int) → (Instr.indexAt t (.slice (some ⟨b, o, none⟩) len cap) (.int k m)).run P w = .ok (.pointer (some ⟨b, o + m.toNat * i.size, none⟩)) w := by
    intro b o len cap k m h0 h1
    simp [Instr.indexAt, asIntOf, run_underlying hu, h0, h1, run_sizeOf hi, Addr.add_mid]
  simp only [evOp] at h
  generalize a.eval y = u at hy
  split at h
  · rename_i b sz rows sp k m hp hq
    split at h
    · rename_i hc
      obtain ⟨rfl, h0, h1⟩ := hc
      cases h
      rw [hp] at hy
      rw [hq] at hz
      rw [hz.int_inv]
      cases hy with | p _ _ hy =>
      cases hy with
      | slnil => simp at h1; omega
      | sl _ _ _ _ _ b off cap f h2 h3 h4 h5 h6 h7 h8 =>
        refine ⟨_, run _ _ _ _ _ _ h0 h1, .p _ _ ?_⟩
        have := PRel.pp (w := w) (S := x.S st κ) i.size (rows ++ sp) m.toNat 0 b off f h2 h3 h4 h7 h8
        simpa using this
    · cases h
  · rename_i k sz s len room k' m hp hq
    split at h
    · rename_i hc
      obtain ⟨rfl, h0, h1⟩ := hc
      cases h
      rw [hp] at hy
      rw [hq] at hz
      rw [hz.int_inv]
      cases hy with
      | own _ _ _ _ _ cap o h2 h3 h4 h5 cur e fr hb hfit =>
        refine ⟨_, run _ _ _ _ _ _ h0 h1, ?_⟩
        have ho : o = s * i.size := by rcases h5 with h5 | h5 <;> omega
        rw [ho, ← Nat.add_mul]
        exact .ptr _ _ _ _
      | ownnil => omega
    · cases h
  · cases h

theorem y_idx (hs : Sat x st κ a w) {t : TypeId} (hu : P.underlying t = some .string) (y z : Operand) {d : DV}
    (h : evOp st (.idx (opd y) (opd z)) = some d) : ∃ v, (Instr.index t (a.eval y) (a.eval z)).run P w = .ok v w ∧ DRel w (x.S st κ) κ d v := by
  have hy := hs.ev y
  have hz := hs.ev z
  simp only [evOp] at h
  split at h
  · rename_i s k m hp hq
    split at h
    · rename_i h0
      simp only [Option.map_eq_some_iff] at h
      obtain ⟨b, hb, rfl⟩ := h
      rw [hp] at hy
      rw [hq] at hz
      rw [hy.str_inv, hz.int_inv]
      refine ⟨.int .u8 b.toNat, ?_, .p _ _ (.int _ _)⟩
      have hb' : (⟨s.toArray⟩ : ByteArray)[m.toNat]? = some b := by
        obtain ⟨h1, h2⟩ := List.getElem?_eq_some_iff.1 hb
        have h3 : m.toNat < (⟨s.toArray⟩ : ByteArray).size := h1
        rw [getElem?_pos (⟨s.toArray⟩ : ByteArray) m.toNat h3]
        congr 1
      simp [Instr.index, asIntOf, run_underlying hu, h0, hb']
    · cases h
  · cases h

theorem y_len_str (hs : Sat x st κ a w) {t : TypeId} {ts : List TypeId} (hu : P.underlying t = some .string) (ty : TypeId) (y : Operand) {d : DV}
    (h : evOp st (.len true (opd y)) = some d) : ∃ v, (Builtin.len_ (t :: ts).toArray ty #[a.eval y]).run P w = .ok v w ∧ DRel w (x.S st κ) κ d v := by
  have hy := hs.ev y
  simp only [evOp] at h
  split at h
  · rename_i s he
    cases h
    rw [he] at hy
    rw [hy.str_inv]
    refine ⟨.int .i64 s.length, ?_, .p _ _ (.int _ _)⟩
    simp [Builtin.len_, run_underlying hu, goInt]
    rfl
  · cases h
  · cases h
  · cases h

theorem y_len_sl (hs : Sat x st κ a w) {t e : TypeId} {ts : List TypeId} (hu : P.underlying t = some (.slice e)) (ty : TypeId) (y : Operand) {d : DV}
    (h : evOp st (.len false (opd y)) = some d) : ∃ v, (Builtin.len_ (t :: ts).toArray ty #[a.eval y]).run P w = .ok v w ∧ DRel w (x.S st κ) κ d v := by
  have hy := hs.ev y
  simp only [evOp] at h
  generalize a.eval y = u at hy
  split at h
  · cases h
  · rename_i b sz rows sp he
    cases h
    rw [he] at hy
    cases hy with | p _ _ hy =>
    cases hy with
    | slnil => exact ⟨.int .i64 0, by simp [Builtin.len_, run_underlying hu, goInt], .p _ _ (.int _ _)⟩
    | sl => exact ⟨.int .i64 rows.length, by simp [Builtin.len_, run_underlying hu, goInt], .p _ _ (.int _ _)⟩
  · rename_i k sz s len room he
    cases h
    rw [he] at hy
    cases hy with
    | own => exact ⟨.int .i64 len, by simp [Builtin.len_, run_underlying hu, goInt], .p _ _ (.int _ _)⟩
    | ownnil => exact ⟨.int .i64 0, by simp [Builtin.len_, run_underlying hu, goInt], .p _ _ (.int _ _)⟩
  · cases h

theorem y_mx (hs : Sat x st κ a w) (big : Bool) (ts : Array TypeId) (ty : TypeId) (y z : Operand) {d : DV} (h : evOp st (.mx big (opd y) (opd z)) = some d) :
    ∃ v, (if big then Builtin.max_ ts ty #[a.eval y, a.eval z] else Builtin.min_ ts ty #[a.eval y, a.eval z]).run P w = .ok v w ∧ DRel w S κ d v := by
  have hy := hs.ev y
  have hz := hs.ev z
  simp only [evOp] at h
  split at h
  · rename_i k p k' q hp hq
    split at h
    · rename_i hk
      cases h
      rw [hp] at hy
      rw [hq] at hz
      rw [hy.int_inv, hz.int_inv]
      cases big
      · refine ⟨.int k (min p q), ?_, .p _ _ (.int _ _)⟩
        simp [Builtin.min_, Builtin.min2]
        by_cases hh : q < p
        · rw [if_pos hh]; omega
        · rw [if_neg hh]; omega
      · refine ⟨.int k (max p q), ?_, .p _ _ (.int _ _)⟩
        simp [Builtin.max_, Builtin.max2]
        by_cases hh : p < q
        · rw [if_pos hh]; omega
        · rw [if_neg hh]; omega
    · cases h
  · cases h

theorem str_extract (s : List UInt8) (l h : Nat) : (⟨s.toArray⟩ : ByteArray).extract l h = ⟨((s.drop l).take (h - l)).toArray⟩ := by
  apply ByteArray.ext
  rw [ByteArray.data_extract]
  apply Array.ext'
  simp

theorem y_slc_str (hs : Sat x st κ a w) {t : TypeId} (hu : P.underlying t = some .string) (y : Operand) (lo hi mx : Option Operand) {d : DV}
    (h : evOp st (.slc 0 (opd y) (lo.map opd) (hi.map opd) (mx.map opd)) = some d) :
    ∃ v, (Instr.sliceAt t (a.eval y) (lo.map a.eval) (hi.map a.eval) (mx.map a.eval)).run P w = .ok v w ∧ DRel w S κ d v := by
  have hy := hs.ev y
  simp only [evOp] at h
  split at h
  · rename_i s he
    rw [he] at hy
    split at h
    · cases h
    · rename_i hm
      cases mx with
      | some m => simp at hm
      | none =>
        split at h
        · rename_i l hh m hc
          cases h
          simp only [Option.map_map] at hc
          obtain ⟨m', h1, h2, h3, h4, h5, h6⟩ := cutB_run (P := P) (S := x.S st κ) (κ := κ) (w := w) (isS := false) (mx := none) (f := st.ev ∘ opd) (g := a.eval) (fun o => hs.ev o) hc s.length (Nat.le_refl _) (Nat.le_refl _)
          rw [hy.str_inv]
          refine ⟨.string ((⟨s.toArray⟩ : ByteArray).extract l hh), ?_, ?_⟩
          · have e : (⟨s.toArray⟩ : ByteArray).size = s.length := rfl
            simp only [Option.map_none] at h1
            simp [Instr.sliceAt, run_underlying hu, Instr.slice, e, h1]
          · rw [str_extract s l hh]
            exact .p _ _ (.str _)
        · cases h
  · split at h
    · rename_i hc; exact (hc.2 rfl).elim
    · cases h
  · split at h
    · rename_i hc; exact (hc.2 rfl).elim
    · cases h
  · cases h

theorem rowAt_drop_take {α : Type} (rows : List (List α)) (l n i j : Nat) (c : α) (h : rowAt ((rows.drop l).take n) i j = some c) : rowAt rows (l + i) j = some c := by
  unfold rowAt at h ⊢
  rw [List.getElem?_take] at h
  by_cases hi : i < n
  · rw [if_pos hi, List.getElem?_drop] at h; exact h
  · rw [if_neg hi] at h; cases h

theorem take_drop_append {α : Type} (L : List α) (l h m : Nat) (h1 : l ≤ h) (h2 : h ≤ m) : (L.drop l).take (h - l) ++ (L.drop h).take (m - h) = (L.drop l).take (m - l) := by
  have e : m - l = (h - l) + (m - h) := by omega
  rw [e, List.take_add, List.drop_drop, show l + (h - l) = h from by omega]

theorem y_slc (hs : Sat x st κ a w) {t e : TypeId} (hu : P.underlying t = some (.slice e)) {n : Nat} (hn : sizeT P e = some n) (hn0 : n ≠ 0) (y : Operand) (lo hi mx : Option Operand) {d : DV}
    (h : evOp st (.slc n (opd y) (lo.map opd) (hi.map opd) (mx.map opd)) = some d) :
    ∃ v, (Instr.sliceAt t (a.eval y) (lo.map a.eval) (hi.map a.eval) (mx.map a.eval)).run P w = .ok v w ∧ DRel w (x.S st κ) κ d v := by
  have hy := hs.ev y
  obtain ⟨i, hi', rfl⟩ := sizeT_some hn
  have run : ∀ (b : Option Addr) (len cap l h m : Nat), (Instr.sliceBounds true len cap (lo.map a.eval) (hi.map a.eval) (mx.map a.eval)).run P w = .ok (l, h, m) w →
      (Instr.sliceAt t (.slice b len cap) (lo.map a.eval) (hi.map a.eval) (mx.map a.eval)).run P w = .ok (.slice (if m = l then b else b.map (·.add (l * i.size))) (h - l) (m - l)) w := by
    intro b len cap l h m hb
    simp [Instr.sliceAt, run_underlying hu, Instr.slice, hb, run_sizeOf hi']
  simp only [evOp] at h
  generalize a.eval y = u at hy
  split at h
  · simp [hn0] at h
  · rename_i b0 sz rows sp he
    split at h
    · rename_i hcc
      obtain ⟨rfl, _⟩ := hcc
      split at h
      · rename_i l hh m hc
        cases h
        simp only [Option.map_map] at hc
        rw [he] at hy
        cases hy with | p _ _ hy =>
        cases hy with
        | slnil =>
          obtain ⟨m', h1, h2, h3, h4, h5, h6⟩ := cutB_run (P := P) (S := x.S st κ) (κ := κ) (w := w) (isS := true) (f := st.ev ∘ opd) (g := a.eval) (fun o => hs.ev o) hc 0 (by simp) (by simp)
          have e1 : l = 0 := by simp at h5; omega
          have e2 : hh = 0 := by simp at h5; omega
          have e3 : m = 0 := by simpa using h5
          have e4 : m' = 0 := by omega
          subst e1 e2 e3 e4
          refine ⟨_, run _ _ _ _ _ _ h1, ?_⟩
          simp
          exact .p _ _ (.slnil _ _ (by assumption))
        | sl oo hoo _ _ _ b off cap f g2 g3 g4 g5 g6 g7 g8 =>
          obtain ⟨m', h1, h2, h3, h4, h5, h6⟩ := cutB_run (P := P) (S := x.S st κ) (κ := κ) (w := w) (isS := true) (f := st.ev ∘ opd) (g := a.eval) (fun o => hs.ev o) hc cap g5 (by omega)
          refine ⟨_, run _ _ _ _ _ _ h1, .p _ _ ?_⟩
          have hlen1 : (((rows ++ sp).drop l).take (hh - l)).length = hh - l := by
            rw [List.length_take, List.length_drop, List.length_append]; omega
          have hlen2 : (((rows ++ sp).drop hh).take (m - hh)).length = m - hh := by
            rw [List.length_take, List.length_drop, List.length_append]; omega
          by_cases hml : m' = l
          · -- nothing is left: no cell
            have hm : m = l := by omega
            have hhl : hh = l := by omega
            subst hml
            subst hm
            subst hhl
            rw [if_pos rfl]
            have e1 : ((rows ++ sp).drop hh).take (hh - hh) = [] := by simp
            rw [e1, Nat.sub_self]
            exact .sl b0 hoo i.size [] [] b off 0 f g2 g3 (fun r hr => by simp at hr) (by simp) (by simp) (fun i j c hc => by simp [rowAt] at hc) (fun i j c hc => by simp [rowAt] at hc)
          · rw [if_neg hml]
            simp only [Option.map_some, Addr.add_mid]
            have := PRel.sl (w := w) (S := x.S st κ) b0 hoo i.size (((rows ++ sp).drop l).take (hh - l)) (((rows ++ sp).drop hh).take (m - hh)) b (off + l * i.size) (m' - l) (fun p q => f (l + p) q) g2 g3
              (fun r hr => by
                rw [take_drop_append _ _ _ _ h2 h3] at hr
                exact g4 r (List.mem_of_mem_drop (List.mem_of_mem_take hr)))
              (by rw [hlen1, hlen2]; omega) (by omega)
              (fun p q c hc' => by
                rw [take_drop_append _ _ _ _ h2 h3] at hc'
                have := g7 (l + p) q c (rowAt_drop_take _ _ _ _ _ _ hc')
                refine ⟨?_, this.2⟩
                rw [← this.1]
                congr 2
                rw [Nat.add_mul]
                omega)
              (fun p q c hc' => by
                rw [take_drop_append _ _ _ _ h2 h3] at hc'
                exact g8 (l + p) q c (rowAt_drop_take _ _ _ _ _ _ hc'))
            rw [hlen1] at this
            exact this
      · cases h
    · cases h
  · rename_i k sz s len room he
    split at h
    · rename_i hcc
      obtain ⟨rfl, _⟩ := hcc
      split at h
      · rename_i l hh m hc
        cases h
        simp only [Option.map_map] at hc
        rw [he] at hy
        cases hy with
        | own _ _ _ _ _ cap o g2 g3 g4 g5 cur e' fr hb hfit =>
          obtain ⟨m', h1, h2, h3, h4, h5, h6⟩ := cutB_run (P := P) (S := x.S st κ) (κ := κ) (w := w) (isS := true) (f := st.ev ∘ opd) (g := a.eval) (fun o => hs.ev o) hc cap g3 g2
          refine ⟨_, run _ _ _ _ _ _ h1, ?_⟩
          by_cases hml : m' = l
          · rw [if_pos hml]
            exact .own k i.size (s + l) (hh - l) (m - l) (m' - l) o (by omega) (by omega) (by omega) (.inl (by omega)) cur e' fr hb (.inr (by omega))
          · rw [if_neg hml]
            simp only [Option.map_some, Addr.add_mid]
            have ho : o = s * i.size := by rcases g5 with g5 | g5 <;> omega
            refine .own k i.size (s + l) (hh - l) (m - l) (m' - l) (o + l * i.size) (by omega) (by omega) (by omega) (.inr (by rw [ho, Nat.add_mul])) cur e' fr hb (.inl ?_)
            rcases hfit with hfit | hfit
            · have : l * i.size + (m' - l) * i.size ≤ cap * i.size := by rw [← Nat.add_mul]; exact Nat.mul_le_mul_right _ (by omega)
              omega
            · omega
        | ownnil =>
          obtain ⟨m', h1, h2, h3, h4, h5, h6⟩ := cutB_run (P := P) (S := x.S st κ) (κ := κ) (w := w) (isS := true) (f := st.ev ∘ opd) (g := a.eval) (fun o => hs.ev o) hc 0 (Nat.le_refl _) (Nat.le_refl _)
          have e1 : l = 0 := by omega
          have e2 : hh = 0 := by omega
          have e3 : m = 0 := by omega
          have e4 : m' = 0 := by omega
          subst e1 e2 e3 e4
          refine ⟨_, run _ _ _ _ _ _ h1, ?_⟩
          simp
          exact .ownnil _ _
      · cases h
    · cases h
  · cases h

theorem y_ext (hs : Sat x st κ a w) (i : Nat) (y : Operand) {d : DV} (h : evOp st (.ext (opd y) i) = some d) : ∃ v, (Instr.extract (a.eval y) i).run P w = .ok v w ∧ DRel w (x.S st κ) κ d v := by
  have hy := hs.ev y
  simp only [evOp] at h
  generalize a.eval y = u at hy
  split at h
  · rename_i vs he
    simp only [Option.map_eq_some_iff] at h
    obtain ⟨c, hc, rfl⟩ := h
    rw [he] at hy
    cases hy with | p _ _ hy => cases hy with | tup _ us hl hr =>
    have hlt : i < us.length := by rw [← hl]; exact (List.getElem?_eq_some_iff.1 hc).1
    exact ⟨us[i], by simp [Instr.extract, hlt], .p _ _ (hr _ _ _ hc (List.getElem?_eq_getElem hlt))⟩
  · rename_i vs he
    rw [he] at hy
    cases hy with | tup _ us hl hr =>
    have hlt : i < us.length := by rw [← hl]; exact (List.getElem?_eq_some_iff.1 h).1
    exact ⟨us[i], by simp [Instr.extract, hlt], hr _ _ _ h (List.getElem?_eq_getElem hlt)⟩
  · cases h

theorem y_mkf (hs : Sat x st κ a w) (f : Fn) (l c : List Operand) {d : DV} (h : evOp st (.mkf f (l.map opd) (c.map opd)) = some d) :
    DRel w (x.S st κ) κ d (.func f (l.map a.eval).toArray (c.map a.eval).toArray) := by
  have h1 := fun i c v => hs.evs l i c v
  have h2 := fun i c' v => hs.evs c i c' v
  simp only [evOp] at h
  split at h
  · rename_i u v hu hv
    cases h
    obtain ⟨a1, a2⟩ := pures_rel hu h1
    obtain ⟨b1, b2⟩ := pures_rel hv h2
    exact .p _ _ (.fn _ _ _ _ _ (by simpa using a1) (by simpa using b1) a2 b2)
  · cases h
    exact .fn _ _ _ _ _ (by simp) (by simp) h1 h2

theorem y_build (hs : Sat x st κ a w) {t : TypeId} {fs : Array Field} (hu : P.underlying t = some (.struct fs)) {z : List PV} (hz : zeroOf P t = some z) {places : List (Nat × Nat)}
    (hp : fs.toList.mapM (fun f => (P.info? f.type).map fun i => (f.offset, i.size)) = some places) (parts : Array (Nat × Operand)) {ps : List (Nat × Nat × DOpd)}
    (hps : parts.toList.mapM (fun p => (places[p.1]?).map fun q => (q.1, q.2, opd p.2)) = some ps) {d : DV} (h : evOp st (.build z ps) = some d) :
    ∃ v, (Instr.build t (parts.map fun (i, x) => (i, a.eval x))).run P w = .ok v w ∧ DRel w (x.S st κ) κ d v := by
  simp only [evOp] at h
  split at h
  · rename_i cs hcs
    cases h
    obtain ⟨it, zv, hi, hzv, hm⟩ := zeroOf_inv hz
    obtain ⟨m1, m2⟩ := mapM_pvOf (w := w) (S := x.S st κ) hm
    obtain ⟨p1, p2⟩ := mapM_some_get hps
    obtain ⟨arr, g1, g2⟩ := fill_rel (w := w) (S := x.S st κ) (κ := κ) (places.toArray[·]?) _ (parts.toList.map fun p => (p.1, a.eval p.2)) (z.map .p) cs zv.cells hcs
      ⟨by simpa using m1, fun i c v hc hv => by
        simp only [List.getElem?_map, Option.map_eq_some_iff] at hc
        obtain ⟨q, hq, rfl⟩ := hc
        exact .p _ _ (m2 i q v hq (by simpa using hv))⟩
      (by simpa using p1)
      (fun i p v hp' hv => by
        simp only [List.getElem?_map, Option.map_eq_some_iff] at hp' hv
        obtain ⟨q, hq, rfl⟩ := hp'
        obtain ⟨q', hq', rfl⟩ := hv
        have := p2 i q' q hq' hq
        simp only [Option.map_eq_some_iff] at this
        obtain ⟨pl, hpl, rfl⟩ := this
        exact ⟨by simpa using hpl, hs.ev _⟩)
    refine ⟨.agg arr, run_build w t _ arr ?_, ?_⟩
    · simp only [Program.built, hi, hu, hzv, hp, Array.toList_map]
      exact g1
    · have := mkAgg_rel (w := w) (S := x.S st κ) (κ := κ) (cs := cs) (vs := arr.toList) (by simpa using g2.1) (fun i c v hc hv => g2.2 i c v hc (by simpa using hv))
      simpa using this
  · cases h
end
end Go.Dl
