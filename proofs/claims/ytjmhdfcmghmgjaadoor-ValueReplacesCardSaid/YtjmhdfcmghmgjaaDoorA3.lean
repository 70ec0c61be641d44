/- Operations that make and write objects. -/
import Derived.Test.YtjmhdfcmghmgjaaDoorA2
import Derived.Laws.MakeOwn
import Derived.Laws.BytesString
set_option linter.unusedVariables false
set_option linter.unusedSimpArgs false
namespace Go.Dl
section
variable {w : World} {S : Nat → Prop} {κ : Nat → Nat} {P : Program} {x : Fx} {st : St} {a : Act}

theorem Fr.alloc (X : Nat → Prop) (w : World) (o : Obj) : Fr X w (w.alloc o) :=
  ⟨rfl, rfl, rfl, by simp, fun b hb _ => RowKit.Below.heap_alloc _ _ _ hb, fun b cur e fr hb => ⟨cur, fr, by rw [RowKit.Below.heap_alloc _ _ _ (getElem?_lt hb)]; exact hb, rfl⟩⟩
theorem Fr.drew (X : Nat → Prop) (w : World) : Fr X w w.drew :=
  ⟨rfl, rfl, rfl, Nat.le_refl _, fun _ _ _ => rfl, fun b cur e fr hb => ⟨cur, fr, hb, rfl⟩⟩

theorem rowAt_wf {α : Type} {rows : List (List α)} {sz i j : Nat} {c : α} (hw : ∀ r, r ∈ rows → r.length = sz) (h : rowAt rows i j = some c) : i < rows.length ∧ j < sz := by
  unfold rowAt at h
  cases hr : rows[i]? with
  | none => simp [hr] at h
  | some r =>
    simp only [hr, Option.bind_some] at h
    obtain ⟨h1, h2⟩ := List.getElem?_eq_some_iff.1 hr
    refine ⟨h1, ?_⟩
    rw [← hw r (by rw [← h2]; exact List.getElem_mem _)]
    exact (List.getElem?_eq_some_iff.1 h).1

theorem rowAt_some {α : Type} {rows : List (List α)} {sz i j : Nat} (hw : ∀ r, r ∈ rows → r.length = sz) (hi : i < rows.length) (hj : j < sz) : ∃ c, rowAt rows i j = some c := by
  have hl : (rows[i]).length = sz := hw _ (List.getElem_mem _)
  exact ⟨(rows[i])[j]'(by omega), by simp [rowAt, List.getElem?_eq_getElem hi, List.getElem?_eq_getElem (show j < (rows[i]).length by omega)]⟩

theorem Rows.at_wf {r : Rows} {sz i j : Nat} {d : DV} (hw : r.wf sz) (h : r.at i j = some d) : i < r.len ∧ j < sz := by
  cases r with
  | p r =>
    simp only [Rows.at, Option.map_eq_some_iff] at h
    obtain ⟨c, hc, _⟩ := h
    exact rowAt_wf hw hc
  | m r => exact rowAt_wf hw h
theorem Rows.at_some {r : Rows} {sz i j : Nat} (hw : r.wf sz) (hi : i < r.len) (hj : j < sz) : ∃ d, r.at i j = some d := by
  cases r with
  | p r =>
    obtain ⟨c, hc⟩ := rowAt_some hw hi hj
    exact ⟨.p c, by simp [Rows.at, hc]⟩
  | m r => exact rowAt_some hw hi hj

/-- the cells of rows, one behind the other -/
def Laid (w : World) (S : Nat → Prop) (κ : Nat → Nat) (sz : Nat) (rows : Rows) (vs : List Value) : Prop :=
  vs.length = rows.len * sz ∧ rows.wf sz ∧ ∀ i j d, rows.at i j = some d → ∃ v, vs[i * sz + j]? = some v ∧ v.oneCell' = true ∧ DRel w S κ d v

theorem split_idx {q n sz : Nat} (h : q < n * sz) : q / sz < n ∧ q % sz < sz ∧ q = q / sz * sz + q % sz := by
  have hsz : 0 < sz := by rcases Nat.eq_zero_or_pos sz with h0 | h0; (subst h0; simp at h); exact h0
  refine ⟨(Nat.div_lt_iff_lt_mul hsz).2 h, Nat.mod_lt _ hsz, ?_⟩
  have := Nat.div_add_mod q sz
  rw [Nat.mul_comm] at this
  omega

theorem Laid.one {sz : Nat} {rows : Rows} {vs : List Value} (h : Laid w S κ sz rows vs) : ∀ u ∈ vs, u.oneCell' = true := by
  intro u hu
  obtain ⟨q, hq, rfl⟩ := List.getElem_of_mem hu
  rw [h.1] at hq
  obtain ⟨h1, h2, h3⟩ := split_idx hq
  obtain ⟨d, hd⟩ := Rows.at_some h.2.1 h1 h2
  obtain ⟨v, hv, ho, _⟩ := h.2.2 _ _ _ hd
  rw [← h3] at hv
  rw [List.getElem?_eq_getElem (by rw [h.1]; exact hq)] at hv
  cases hv
  exact ho

theorem Rows.len_take (n : Nat) (r : Rows) : (r.take n).len = min n r.len := by cases r <;> simp [Rows.take, Rows.len]
theorem Rows.len_drop (n : Nat) (r : Rows) : (r.drop n).len = r.len - n := by cases r <;> simp [Rows.drop, Rows.len]
theorem Rows.wf_take {sz : Nat} (n : Nat) {r : Rows} (h : r.wf sz) : (r.take n).wf sz := by
  cases r <;> exact fun x hx => h x (List.mem_of_mem_take hx)
theorem Rows.wf_drop {sz : Nat} (n : Nat) {r : Rows} (h : r.wf sz) : (r.drop n).wf sz := by
  cases r <;> exact fun x hx => h x (List.mem_of_mem_drop hx)
theorem Rows.at_take {n i j : Nat} {r : Rows} {d : DV} (h : (r.take n).at i j = some d) : r.at i j = some d := by
  cases r with
  | p r =>
    simp only [Rows.take, Rows.at, Option.map_eq_some_iff] at h ⊢
    obtain ⟨c, hc, rfl⟩ := h
    exact ⟨c, by simpa using rowAt_drop_take r 0 n i j c (by simpa using hc), rfl⟩
  | m r =>
    simp only [Rows.take, Rows.at] at h ⊢
    simpa using rowAt_drop_take r 0 n i j d (by simpa using h)
theorem rowAt_drop {α : Type} (rows : List (List α)) (l i j : Nat) : rowAt (rows.drop l) i j = rowAt rows (l + i) j := by simp [rowAt]
theorem Rows.at_drop (n i j : Nat) (r : Rows) : (r.drop n).at i j = r.at (n + i) j := by
  cases r <;> simp [Rows.drop, Rows.at, rowAt_drop]

/-- memory that holds rows: the cells, listed -/
theorem laid_of {sz n : Nat} {rows : Rows} (hw : rows.wf sz) (hn : rows.len = n) (f : Nat → Nat → Value) (h : ∀ i j d, rows.at i j = some d → (f i j).oneCell' = true ∧ DRel w S κ d (f i j)) :
    Laid w S κ sz rows ((List.range (n * sz)).map fun q => f (q / sz) (q % sz)) := by
  refine ⟨by simp [hn], hw, fun i j d hd => ?_⟩
  obtain ⟨hi, hj⟩ := Rows.at_wf hw hd
  have hlt : i * sz + j < n * sz := by
    have := Nat.mul_le_mul_right sz (show i + 1 ≤ n by omega)
    rw [Nat.add_mul] at this
    omega
  have e1 : (i * sz + j) / sz = i := by rw [Nat.mul_comm, Nat.mul_add_div (by omega), Nat.div_eq_of_lt hj]; rfl
  have e2 : (i * sz + j) % sz = j := by rw [Nat.mul_comm, Nat.mul_add_mod, Nat.mod_eq_of_lt hj]
  exact ⟨f i j, by simp [hlt, e1, e2], (h i j d hd).1, (h i j d hd).2⟩

theorem src_rel (hs : Sat x st κ a w) (y : Operand) {sz : Nat} (hsz : 0 < sz) {src : Rows} (h : srcRows st sz (st.ev (opd y)) = some src) {tx : TypeId}
    (hk : (∃ e', P.underlying tx = some (.slice e')) ∨ P.underlying tx = some .string) :
    ∃ news, Src P sz tx (a.eval y) src.len news w ∧ Laid w (x.S st κ) κ sz src news := by
  have hy := hs.ev y
  have mk : ∀ (b off len cap : Nat) (f : Nat → Nat → Value), src.wf sz → src.len = len → (∀ i j d, src.at i j = some d → w.cell? ⟨b, off + i * sz + j, none⟩ = some (f i j) ∧ (f i j).oneCell' = true ∧ DRel w (x.S st κ) κ d (f i j)) →
      ∃ news, Src P sz tx (.slice (some ⟨b, off, none⟩) len cap) src.len news w ∧ Laid w (x.S st κ) κ sz src news := by
    intro b off len cap f hw hl hf
    have hlaid := laid_of (w := w) (S := x.S st κ) (κ := κ) hw hl f (fun i j d hd => (hf i j d hd).2)
    have hcell : ∀ j u, ((List.range (len * sz)).map fun q => f (q / sz) (q % sz))[j]? = some u → w.cell? ((⟨b, off, none⟩ : Addr).add j) = some u := by
      intro q u hu
      simp only [List.getElem?_map, Option.map_eq_some_iff] at hu
      obtain ⟨q', hq', rfl⟩ := hu
      obtain ⟨h1, h2⟩ := List.getElem?_eq_some_iff.1 hq'
      simp only [List.length_range] at h1
      simp only [List.getElem_range] at h2
      subst h2
      obtain ⟨g1, g2, g3⟩ := split_idx h1
      obtain ⟨d, hd⟩ := Rows.at_some hw (by rw [hl]; exact g1) g2
      rw [Addr.add_mid, ← (hf _ _ d hd).1]
      congr 2
      omega
    refine ⟨_, ⟨hk, fun _ => by rw [hl]; rfl, ?_, ?_, by rw [hlaid.1], hlaid.one⟩, hlaid⟩
    · rw [hl]; exact run_firstCells_some w sz len _ len cap _ (by simp) hcell
    · rw [hl]; exact run_firstCells_some w.drew sz len _ len cap _ (by simp) (by simpa using hcell)
  unfold srcRows at h
  generalize a.eval y = u at hy ⊢
  split at h
  · rename_i b sz' rows sp he
    split at h
    · rename_i hc
      cases h
      rw [he] at hy
      cases hy with | p _ _ hy =>
      cases hy with
      | slnil =>
        refine ⟨[], ⟨hk, fun _ => rfl, by simp [Builtin.firstCells], by simp [Builtin.firstCells], by simp [Rows.len], fun u hu => (by cases hu)⟩, by simp [Rows.len], (fun r hr => (by cases hr)), fun i j d hd => (by simp [Rows.at, rowAt] at hd)⟩
      | slz oo _ hoo ad =>
        refine ⟨[], ⟨hk, fun _ => rfl, run_firstCells_some w sz 0 ad 0 0 [] (by simp) (fun j v h => by simp at h), run_firstCells_some w.drew sz 0 ad 0 0 [] (by simp) (fun j v h => by simp at h), by simp [Rows.len], fun u hu => (by cases hu)⟩, by simp [Rows.len], (fun r hr => (by cases hr)), fun i j d hd => (by simp [Rows.at, rowAt] at hd)⟩
      | sl oo hoo _ _ _ b off cap f g2 g3 g4 g5 g6 g7 g8 =>
        obtain rfl : sz' = sz := by rcases hc with hc | hc; exact hc; exact (hoo hc).elim
        refine mk b off rows.length cap f (fun r hr => g4 r (List.mem_append_left _ hr)) rfl (fun i j d hd => ?_)
        simp only [Rows.at, Option.map_eq_some_iff] at hd
        obtain ⟨c, hc', rfl⟩ := hd
        have hc2 : rowAt (rows ++ sp) i j = some c := by
          unfold rowAt at hc' ⊢
          cases hr : rows[i]? with
          | none => simp [hr] at hc'
          | some r =>
            rw [List.getElem?_append_left (List.getElem?_eq_some_iff.1 hr).1, hr]
            simpa [hr] using hc'
        exact ⟨(g7 i j c hc2).1, (g7 i j c hc2).2, .p _ _ (g8 i j c hc2)⟩
    · cases h
  · rename_i k sz' s len room he
    split at h
    · rename_i hsz'
      subst hsz'
      split at h
      · rename_i ob hob
        split at h
        · rename_i hc
          obtain ⟨hc1, hc2⟩ := hc
          cases h
          rw [he] at hy
          obtain ⟨wf, cur, e, hb, hlen, hcc⟩ := hs.H k ob hob
          subst hc1
          have hl : ((ob.rows.drop s).take len).len = len := by rw [Rows.len_take, Rows.len_drop]; omega
          cases hy with
          | own _ _ _ _ _ cap o h2 h3 h4 h5 cur' e' fr hb' hfit =>
            have ho : len = 0 ∨ o = s * ob.sz := by rcases h5 with h5 | h5; (left; omega); exact .inr h5
            have hw := Rows.wf_take len (Rows.wf_drop s wf)
            have hat : ∀ i j d, ((ob.rows.drop s).take len).at i j = some d → ∃ v, cur[(s + i) * ob.sz + j]? = some v ∧ v.oneCell' = true ∧ DRel w (x.S st κ) κ d v := by
              intro i j d hd
              have := Rows.at_take hd
              rw [Rows.at_drop] at this
              exact hcc _ _ _ this
            refine mk (κ k) o len cap (fun i j => cur[(s + i) * ob.sz + j]?.getD undef) hw hl (fun i j d hd => ?_)
            obtain ⟨v, g1, g2, g3⟩ := hat i j d hd
            have hi := (Rows.at_wf hw hd).1
            have ho' : o = s * ob.sz := by rcases ho with h0 | h0; (rw [hl] at hi; omega); exact h0
            refine ⟨?_, by rw [g1]; exact g2, by rw [g1]; exact g3⟩
            have e0 : o + i * ob.sz + j = (s + i) * ob.sz + j := by rw [ho', Nat.add_mul]
            simp [World.cell?, hb, e0, g1]
          | ownnil =>
            refine ⟨[], ⟨hk, fun _ => by rw [hl]; rfl, by simp [Builtin.firstCells], by simp [Builtin.firstCells], by rw [hl]; simp, fun u hu => (by cases hu)⟩, by rw [hl]; simp, Rows.wf_take 0 (Rows.wf_drop 0 wf), fun i j d hd => ?_⟩
            have := (Rows.at_wf (Rows.wf_take 0 (Rows.wf_drop 0 wf)) hd).1
            rw [hl] at this
            omega
        · cases h
      · cases h
    · cases h
  · rename_i s he
    split at h
    · rename_i h1
      cases h
      subst h1
      rw [he] at hy
      rw [hy.str_inv]
      have hlen : (Rows.p (s.map fun b => [PV.int .u8 b.toNat])).len = s.length := by simp [Rows.len]
      have hsz0 : (⟨s.toArray⟩ : ByteArray).size = s.length := rfl
      refine ⟨byteCells ⟨s.toArray⟩, ⟨hk, fun _ => by rw [hlen]; rfl, ?_, ?_, by rw [byteCells_length, hlen, hsz0, Nat.mul_one], fun u hu => by
          obtain ⟨_, _, rfl⟩ := List.mem_map.1 hu
          rfl⟩, by rw [byteCells_length, hlen, hsz0, Nat.mul_one], ?_, ?_⟩
      · rw [hlen]; exact firstCells_string ⟨s.toArray⟩ w
      · rw [hlen]; exact firstCells_string ⟨s.toArray⟩ w.drew
      · intro r hr
        simp only [List.mem_map] at hr
        obtain ⟨_, _, rfl⟩ := hr
        rfl
      · intro i j d hd
        simp only [Rows.at, Option.map_eq_some_iff] at hd
        obtain ⟨c, hc, rfl⟩ := hd
        unfold rowAt at hc
        simp only [List.getElem?_map] at hc
        cases hb : s[i]? with
        | none => simp [hb] at hc
        | some b =>
          simp only [hb, Option.map_some, Option.bind_some] at hc
          cases j with
          | succ j => simp at hc
          | zero =>
            simp at hc
            subst hc
            exact ⟨.int .u8 b.toNat, by simp [byteCells, hb], rfl, .p _ _ (.int _ _)⟩
    · cases h
  · cases h

/-- A fresh block that holds rows: a new object. -/
theorem Sat.fresh (h : Sat x st κ a w) (k : Nat) (hk : k < st.nt) (sz : Nat) (rows : Rows) (vs : List Value) (hl : Laid w (x.S st κ) κ sz rows vs) (hr : ∀ i j d, rows.at i j = some d → d.refs k = false)
    (w1 : World) (hf : Fr (fun _ => False) w w1) (cur : Array Value) (e : TypeId) (hcur : ∀ (i : Nat) (v : Value), vs[i]? = some v → cur[i]? = some v) (d : DV) (v : Value)
    (hd : ∀ S, DRel (w1.alloc (.cells cur e)) S (upd κ k w1.heap.size) d v) :
    Sat x (st.new k ⟨false, sz, rows⟩ d) (upd κ k w1.heap.size) (a.put (some k) v) (w1.alloc (.cells cur e)) := by
  have hf' : Fr (fun _ => False) w (w1.alloc (.cells cur e)) := hf.trans (Fr.alloc _ _ _)
  have hheap : (w1.alloc (.cells cur e)).heap[w1.heap.size]? = some (.cells cur e (0, 0)) := heap_alloc_new w1 _
  refine h.new k hk ⟨false, sz, rows⟩ d v w1.heap.size hf' hf.size (fun S hS _ => ⟨hl.2.1, cur, e, by rw [upd_same]; exact hheap, ?_, fun i j d' hd' => ?_⟩) (fun S _ _ => hd S)
  · show rows.len * sz ≤ cur.size
    rw [← hl.1]
    rcases Nat.eq_zero_or_pos vs.length with h0 | h0
    · omega
    · have := hcur (vs.length - 1) _ (List.getElem?_eq_getElem (by omega))
      have := (Array.getElem?_eq_some_iff.1 this).1
      omega
  · obtain ⟨u, h1, h2, h3⟩ := hl.2.2 i j d' hd'
    exact ⟨u, hcur _ _ h1, h2, (h3.mono (hf'.keep (fun _ _ h => h.elim)) hS).rekey k (fun j hj => upd_ne _ _ _ _ hj) (hr _ _ _ hd')⟩

theorem run_newRow (P : Program) (w : World) (e : TypeId) (cells : Array Value) : (newRow e cells).run P w = .ok ⟨w.heap.size, 0, none⟩ (w.alloc (.cells cells e)) := by
  simp [newRow]

theorem ptr_rel {w : World} {S : Nat → Prop} {κ : Nat → Nat} (k sz b : Nat) (h : κ k = b) : DRel w S κ (.ptr k sz 0 0) (.pointer (some ⟨b, 0, none⟩)) := by
  have := DRel.ptr (w := w) (S := S) (κ := κ) k sz 0 0
  simpa [h] using this

theorem at_pure_refs {rows : List (List PV)} {k i j : Nat} {d : DV} (h : (Rows.p rows).at i j = some d) : d.refs k = false := by
  simp only [Rows.at, Option.map_eq_some_iff] at h
  obtain ⟨c, _, rfl⟩ := h
  rfl

theorem d_alloc (hs : Sat x st κ a w) {t : TypeId} {z : List PV} (hz : zeroOf P t = some z) (k : Nat) (hk : k < st.nt) (hl : z.all PV.leaf = true) :
    ∃ v w', (Instr.alloc t true (.tuple #[])).run P w = .ok v w' ∧ Sat x (st.new k ⟨false, z.length, .p [z]⟩ (.ptr k z.length 0 0)) (upd κ k w.heap.size) (a.put (some k) v) w' := by
  obtain ⟨it, zv, hi, hzv, hm⟩ := zeroOf_inv hz
  obtain ⟨m1, m2⟩ := mapM_pvOf (w := w) (S := x.S st κ) hm
  refine ⟨.pointer (some ⟨w.heap.size, 0, none⟩), w.alloc (.cells zv.cells t), ?_, ?_⟩
  · simp [Instr.alloc, zeroValue, typeInfo, hi, hzv, newVar, newRow]
  · refine hs.fresh k hk z.length (.p [z]) zv.cells.toList ⟨by simp [Rows.len, m1], fun r hr => by simp at hr; rw [hr], fun i j d hd => ?_⟩ (fun i j d hd => at_pure_refs hd) w (Fr.refl _ _) _ _ (fun i v hv => by simpa using hv) _ _ (fun S => ptr_rel _ _ _ (upd_same _ _ _))
    simp only [Rows.at, Option.map_eq_some_iff] at hd
    obtain ⟨c, hc, rfl⟩ := hd
    cases i with
    | succ i => simp [rowAt] at hc
    | zero =>
      simp [rowAt] at hc
      have hlt : j < zv.cells.toList.length := by rw [← m1]; exact (List.getElem?_eq_some_iff.1 hc).1
      have h1 := m2 j c _ hc (List.getElem?_eq_getElem hlt)
      refine ⟨_, by rw [Nat.zero_mul, Nat.zero_add]; exact List.getElem?_eq_getElem hlt, ?_, .p _ _ h1⟩
      exact leaf_one (.p _ _ h1 : DRel w (x.S st κ) κ (.p c) _) (by
        have := List.all_eq_true.1 hl c (List.mem_of_getElem? hc)
        simpa [DV.leaf] using this)

theorem refsL_mem {k : Nat} {cs : List DV} (h : DV.refsL k cs = false) {c : DV} (hc : c ∈ cs) : c.refs k = false := by
  obtain ⟨i, hi, rfl⟩ := List.getElem_of_mem hc
  exact refsL_get h i _ (List.getElem?_eq_getElem hi)

theorem pures_get : ∀ {cs : List DV} {ps : List PV}, pures cs = some ps → cs = ps.map .p
  | [], ps, h => by simp only [pures, Option.some.injEq] at h; subst h; rfl
  | .p q :: r, ps, h => by
    simp only [pures, Option.map_eq_some_iff] at h
    obtain ⟨qs, hq, rfl⟩ := h
    simp [pures_get hq]
  | .undef :: r, ps, h => by simp [pures] at h
  | .own .. :: r, ps, h => by simp [pures] at h
  | .ptr .. :: r, ps, h => by simp [pures] at h
  | .agg .. :: r, ps, h => by simp [pures] at h
  | .tup .. :: r, ps, h => by simp [pures] at h
  | .fn .. :: r, ps, h => by simp [pures] at h

theorem box_laid {cs : List DV} {vs : Array Value} (hl : cs.length = vs.size) (hr : ∀ (i : Nat) (c : DV) (u : Value), cs[i]? = some c → vs[i]? = some u → DRel w S κ c u) (hleaf : cs.all DV.leaf = true) (rows : Rows)
    (hrows : rows = .m [cs] ∨ ∃ ps, cs = ps.map .p ∧ rows = .p [ps]) : Laid w S κ cs.length rows vs.toList := by
  have hat : ∀ i j d, rows.at i j = some d → i = 0 ∧ cs[j]? = some d := by
    intro i j d hd
    rcases hrows with rfl | ⟨ps, rfl, rfl⟩
    · cases i with
      | zero => exact ⟨rfl, by simpa [Rows.at, rowAt] using hd⟩
      | succ i => simp [Rows.at, rowAt] at hd
    · cases i with
      | zero =>
        refine ⟨rfl, ?_⟩
        simp only [Rows.at, rowAt, List.getElem?_cons_zero, Option.bind_some, Option.map_eq_some_iff] at hd
        obtain ⟨c, hc, rfl⟩ := hd
        simp [hc]
      | succ i => simp [Rows.at, rowAt] at hd
  refine ⟨?_, ?_, fun i j d hd => ?_⟩
  · rcases hrows with rfl | ⟨ps, rfl, rfl⟩ <;> simp [Rows.len] at hl ⊢ <;> omega
  · rcases hrows with rfl | ⟨ps, rfl, rfl⟩
    · intro r hr; simp at hr; rw [hr]
    · intro r hr; simp at hr; rw [hr]; simp
  · obtain ⟨rfl, hc⟩ := hat i j d hd
    have hlt : j < vs.size := by rw [← hl]; exact (List.getElem?_eq_some_iff.1 hc).1
    have h1 := hr j d _ hc (Array.getElem?_eq_getElem hlt)
    exact ⟨vs[j], by simp [hlt], leaf_one h1 (List.all_eq_true.1 hleaf d (List.mem_of_getElem? hc)), h1⟩

theorem d_box (hs : Sat x st κ a w) (t : TypeId) (y : Operand) (k : Nat) (hk : k < st.nt) {n : Nat} {st' : St} (h : stepD st (some k) (.box n (opd y)) = some st') :
    ∃ v w', (Instr.box t (a.eval y)).run P w = .ok v w' ∧ Sat x st' (upd κ k w.heap.size) (a.put (some k) v) w' := by
  have hy := hs.ev y
  simp only [stepD] at h
  split at h
  · rename_i hc
    obtain ⟨hc1, hc2⟩ := hc
    obtain ⟨k1, k2⟩ := cells_rel hy hc2
    subst hc1
    refine ⟨.pointer (some ⟨w.heap.size, 0, none⟩), w.alloc (.cells (a.eval y).cells t), by simp [Instr.box, newVar, newRow], ?_⟩
    split at h
    · rename_i ps hps
      cases h
      have e := pures_get hps
      refine hs.fresh k hk _ _ _ (box_laid k1 k2 hc2 _ (.inr ⟨ps, e, rfl⟩)) (fun i j d hd => at_pure_refs hd) w (Fr.refl _ _) _ _ (fun i v hv => by simpa using hv) _ _ (fun S => ptr_rel _ _ _ (upd_same _ _ _))
    · split at h
      · cases h
      · rename_i hrf
        cases h
        refine hs.fresh k hk _ _ _ (box_laid k1 k2 hc2 _ (.inl rfl)) (fun i j d hd => ?_) w (Fr.refl _ _) _ _ (fun i v hv => by simpa using hv) _ _ (fun S => ptr_rel _ _ _ (upd_same _ _ _))
        cases i with
        | zero => exact refsL_get (by simpa using hrf) j d (by simpa [Rows.at, rowAt] using hd)
        | succ i => simp [Rows.at, rowAt] at hd
  · cases h

theorem repl_get {α : Type} (z : List α) (hz : 0 < z.length) : ∀ (n q : Nat), (repl n z).length = n * z.length ∧ (q < n * z.length → (repl n z)[q]? = z[q % z.length]?)
  | 0, q => ⟨by simp [repl], fun h => by simp at h⟩
  | n + 1, q => by
    have ih := fun q => repl_get z hz n q
    refine ⟨by simp only [repl, List.length_append, (ih 0).1, Nat.add_mul]; omega, fun h => ?_⟩
    simp only [repl]
    by_cases hq : q < z.length
    · rw [List.getElem?_append_left hq, Nat.mod_eq_of_lt hq]
    · rw [List.getElem?_append_right (by omega), (ih _).2 (by rw [Nat.add_mul] at h; omega)]
      congr 1
      rw [Nat.mod_eq_sub_mod (show z.length ≤ q by omega)]

theorem chunks_len {α : Type} : ∀ (n sz : Nat) (l : List α), (chunks n sz l).length = n
  | 0, _, _ => rfl
  | n + 1, sz, l => by simp [chunks, chunks_len n]
theorem chunks_wf {α : Type} : ∀ (n sz : Nat) (l : List α), l.length = n * sz → ∀ r, r ∈ chunks n sz l → r.length = sz
  | 0, _, _, _, r, hr => by simp [chunks] at hr
  | n + 1, sz, l, hl, r, hr => by
    rw [Nat.add_mul] at hl
    simp only [chunks, List.mem_cons] at hr
    rcases hr with rfl | hr
    · simp; omega
    · exact chunks_wf n sz (l.drop sz) (by simp; omega) r hr
theorem chunks_at {α : Type} : ∀ (n sz : Nat) (l : List α) (i j : Nat) (c : α), rowAt (chunks n sz l) i j = some c → l[i * sz + j]? = some c
  | 0, _, _, i, j, c, h => by simp [chunks, rowAt] at h
  | n + 1, sz, l, i, j, c, h => by
    cases i with
    | zero =>
      simp only [chunks, rowAt, List.getElem?_cons_zero, Option.bind_some, List.getElem?_take] at h
      by_cases hj : j < sz
      · rw [if_pos hj] at h; simpa using h
      · rw [if_neg hj] at h; cases h
    | succ i =>
      have h' : rowAt (chunks n sz (l.drop sz)) i j = some c := by simpa [chunks, rowAt] using h
      have := chunks_at n sz (l.drop sz) i j c h'
      rw [List.getElem?_drop] at this
      rw [← this]
      congr 1
      rw [Nat.add_mul]
      omega

theorem mapPures_get : ∀ {rs : List (List DV)} {ps : List (List PV)}, mapPures rs = some ps → rs = ps.map (·.map .p)
  | [], ps, h => by simp only [mapPures, Option.some.injEq] at h; subst h; rfl
  | r :: rs, ps, h => by
    simp only [mapPures] at h
    split at h
    · rename_i p q hp hq
      cases h
      rw [List.map_cons, ← mapPures_get hq, ← pures_get hp]
    · cases h

theorem mkRows_at {rs : List (List DV)} {i j : Nat} {d : DV} : (mkRows rs).at i j = some d ↔ rowAt rs i j = some d := by
  unfold mkRows
  split
  · rename_i ps hps
    rw [mapPures_get hps]
    simp only [Rows.at]
    rw [rowAt_map]
  · rfl
theorem mkRows_len (rs : List (List DV)) : (mkRows rs).len = rs.length := by
  unfold mkRows
  split
  · rename_i ps hps
    rw [mapPures_get hps]
    simp [Rows.len]
  · rfl
theorem mkRows_wf {rs : List (List DV)} {sz : Nat} (h : ∀ r, r ∈ rs → r.length = sz) : (mkRows rs).wf sz := by
  unfold mkRows
  split
  · rename_i ps hps
    rw [mapPures_get hps] at h
    intro r hr
    have := h (r.map .p) (List.mem_map.2 ⟨r, hr, rfl⟩)
    simpa using this
  · exact h

theorem nrm0_rel {d : DV} {v : Value} (h : DRel w S κ d v) : DRel w S κ d.nrm0 v := by
  cases d with
  | p q => cases h with | p _ _ h => exact .p _ _ h.norm0
  | _ => exact h
theorem nrm0_refs (d : DV) (k : Nat) : d.nrm0.refs k = d.refs k := by cases d <;> rfl
theorem Rows.at_nrm (r : Rows) (i j : Nat) : r.nrm.at i j = (r.at i j).map DV.nrm0 := by
  cases r with
  | p r =>
    simp only [Rows.nrm, Rows.at, rowAt_map, Option.map_map]
    rfl
  | m r => simp only [Rows.nrm, Rows.at, rowAt_map]
theorem Rows.len_nrm (r : Rows) : r.nrm.len = r.len := by cases r <;> simp [Rows.nrm, Rows.len]
theorem Rows.wf_nrm {r : Rows} {sz : Nat} (h : r.wf sz) : r.nrm.wf sz := by
  cases r with
  | p r =>
    intro x hx
    simp only [List.mem_map] at hx
    obtain ⟨y, hy, rfl⟩ := hx
    simpa using h y hy
  | m r =>
    intro x hx
    simp only [List.mem_map] at hx
    obtain ⟨y, hy, rfl⟩ := hx
    simpa using h y hy
theorem Laid.nrm {sz : Nat} {rows : Rows} {vs : List Value} (h : Laid w S κ sz rows vs) : Laid w S κ sz rows.nrm vs :=
  ⟨by rw [Rows.len_nrm]; exact h.1, Rows.wf_nrm h.2.1, fun i j d hd => by
    rw [Rows.at_nrm, Option.map_eq_some_iff] at hd
    obtain ⟨d', hd', rfl⟩ := hd
    obtain ⟨v, h1, h2, h3⟩ := h.2.2 i j d' hd'
    exact ⟨v, h1, h2, nrm0_rel h3⟩⟩

theorem own_rel {w : World} {S : Nat → Prop} {κ : Nat → Nat} (k sz len room cap b : Nat) (h : κ k = b) (hlen : len ≤ room) (hroom : room ≤ cap) (hmax : cap ≤ maxLen) (cur : Array Value) (e : TypeId) (fr : Nat × Nat) (hb : w.heap[b]? = some (.cells cur e fr))
    (hfit : cap * sz ≤ cur.size) : DRel w S κ (.own k sz 0 len room) (.slice (some ⟨b, 0, none⟩) len cap) := by
  subst h
  exact .own k sz 0 len room cap 0 hlen hroom hmax (.inr (by simp)) cur e fr hb (.inl (by simpa using hfit))

theorem d_bsl (hs : Sat x st κ a w) {t e : TypeId} (hu : P.underlying t = some (.slice e)) {sz : Nat} {z : List PV} (hsz : sizeT P e = some sz) (hz : zeroOf P e = some z) (n : Nat) (parts : Array (Nat × Operand)) (k : Nat) (hk : k < st.nt) {st' : St}
    (h : stepD st (some k) (.bsl sz n z (parts.toList.map fun p => (p.1, opd p.2))) = some st') :
    ∃ v w', (Instr.buildSlice t n (parts.map fun (i, x) => (i, a.eval x))).run P w = .ok v w' ∧ Sat x st' (upd κ k w.heap.size) (a.put (some k) v) w' := by
  obtain ⟨ie, hie, rfl⟩ := sizeT_some hsz
  obtain ⟨it, zv, hi, hzv, hm⟩ := zeroOf_inv hz
  rw [hie] at hi
  cases hi
  obtain ⟨m1, m2⟩ := mapM_pvOf (w := w) (S := x.S st κ) hm
  simp only [stepD] at h
  split at h
  · rename_i flat hflat
    split at h
    · rename_i hc
      obtain ⟨c1, c2, c3, c4, c5⟩ := hc
      cases h
      have hzs : zv.cells.size = ie.size := by rw [← Array.length_toList, ← m1, c1]
      have hz0 : 0 < (z.map DV.p).length := by simp; omega
      have hrep := fun q => repl_get (z.map DV.p) hz0 n q
      simp only [List.length_map, c1] at hrep
      obtain ⟨arr, g1, g2⟩ := fill_rel (w := w) (S := x.S st κ) (κ := κ) (fun i => some (i * ie.size, ie.size)) _ (parts.toList.map fun p => (p.1, a.eval p.2)) (repl n (z.map .p)) flat
        ((Array.range (n * ie.size)).map (zv.cells[· % zv.cells.size]!)) hflat
        ⟨by rw [(hrep 0).1]; simp, fun q c v hc hv => by
          have hq : q < n * ie.size := by rw [← (hrep 0).1]; exact (List.getElem?_eq_some_iff.1 hc).1
          rw [(hrep q).2 hq] at hc
          simp only [List.getElem?_map, Option.map_eq_some_iff] at hc
          obtain ⟨p, hp, rfl⟩ := hc
          have hlt : q % ie.size < zv.cells.size := by rw [hzs]; exact Nat.mod_lt _ c4
          simp only [Array.getElem?_map, Array.getElem?_range, hq, if_true, Option.map_some, Option.some.injEq] at hv
          rw [hzs, getElem!_pos zv.cells _ hlt] at hv
          subst hv
          exact .p _ _ (m2 _ p _ hp (by simp [hlt]))⟩
        (by simp)
        (fun i p v hp' hv => by
          simp only [List.getElem?_map, Option.map_map, Option.map_eq_some_iff] at hp' hv
          obtain ⟨q, hq, rfl⟩ := hp'
          obtain ⟨q', hq', rfl⟩ := hv
          rw [hq] at hq'
          cases hq'
          exact ⟨rfl, hs.ev _⟩)
      have hfl : flat.length = n * ie.size := by
        rw [g2.1]
        have : ∀ (ps : List (Nat × Value)) (c c' : Array Value), Instr.fill (fun i => some (i * ie.size, ie.size)) c ps = some c' → c'.size = c.size := by
          intro ps
          induction ps with
          | nil => intro c c' h; simp [Instr.fill] at h; rw [h]
          | cons p r ih =>
            intro c c' h
            simp only [Instr.fill] at h
            split at h
            · cases h
            · rw [ih _ _ h, ← Array.foldl_toList, Array.toList_zipIdx]
              exact (fold_set _ _ 0 _).1
        rw [this _ _ _ g1]
        simp
      have hlaid : Laid w (x.S st κ) κ ie.size (mkRows (chunks n ie.size flat)) arr.toList := by
        refine ⟨by rw [mkRows_len, chunks_len, Array.length_toList, ← g2.1, hfl], mkRows_wf (chunks_wf n _ flat hfl), fun i j d hd => ?_⟩
        have hd' := chunks_at _ _ _ _ _ _ (mkRows_at.1 hd)
        have hlt : i * ie.size + j < arr.size := by rw [← g2.1]; exact (List.getElem?_eq_some_iff.1 hd').1
        have h1 := g2.2 _ d _ hd' (Array.getElem?_eq_getElem hlt)
        exact ⟨_, by rw [Array.getElem?_toList]; exact Array.getElem?_eq_getElem hlt, leaf_one h1 (List.all_eq_true.1 c2 d (List.mem_of_getElem? hd')), h1⟩
      refine ⟨.slice (some ⟨w.heap.size, 0, none⟩) n n, w.alloc (.cells arr e), ?_, ?_⟩
      · have hbig : ¬ (n * ie.size > 2 ^ 24) := by omega
        by_cases hn0 : n = 0
        · subst hn0
          have hrz : ((Array.range (0 * ie.size)).map (zv.cells[· % zv.cells.size]!)) = #[] := by simp
          rw [hrz] at g1
          simp [Instr.buildSlice, run_underlying hu, run_sizeOf hie, newRow]
          have e0 : (Array.map (fun x => (default : Value)) (Array.range 0)) = #[] := by simp
          rw [e0, g1]
          simp
        · have hne : n * ie.size ≠ 0 := Nat.mul_ne_zero hn0 (by omega)
          simp [Instr.buildSlice, run_underlying hu, run_sizeOf hie, newRow, zeroValue, typeInfo, hie, hzv, hn0, show ie.size ≠ 0 from by omega, show ¬ (16777216 < n * ie.size) from by omega]
          rw [g1]
          simp
          intro h0
          exact absurd h0 hne
      · refine hs.fresh k hk _ _ _ hlaid.nrm (fun i j d hd => by
          rw [Rows.at_nrm, Option.map_eq_some_iff] at hd
          obtain ⟨d', hd', rfl⟩ := hd
          rw [nrm0_refs]
          exact refsL_mem c3 (List.mem_of_getElem? (chunks_at _ _ _ _ _ _ (mkRows_at.1 hd')))) w (Fr.refl _ _) _ _ (fun i v hv => by simpa using hv) _ _
          (fun S => own_rel _ _ _ _ _ _ (upd_same _ _ _) (Nat.le_refl _) (Nat.le_refl _) (by unfold maxLen; have : n ≤ n * ie.size := Nat.le_mul_of_pos_right _ c4; omega) arr e (0, 0) (heap_alloc_new w _) (by rw [← hfl, g2.1]; exact Nat.le_refl _))
    · cases h
  · cases h

theorem d_mks (hs : Sat x st κ a w) {t e : TypeId} (hu : P.underlying t = some (.slice e)) {ie : TypeInfo} (hie : P.info? e = some ie) {z : List PV} (hz : zeroOf P e = some z) (l c : Operand) (k : Nat) (hk : k < st.nt) {st' : St}
    (h : stepD st (some k) (.mks ie.size ie.bytes z (opd l) (opd c)) = some st') :
    ∃ v w', (Instr.makeSlice t (a.eval l) (a.eval c)).run P w = .ok v w' ∧ Sat x st' (upd κ k w.heap.size) (a.put (some k) v) w' := by
  obtain ⟨it, zv, hi, hzv, hm⟩ := zeroOf_inv hz
  rw [hie] at hi
  cases hi
  obtain ⟨m1, m2⟩ := mapM_pvOf (w := w) (S := x.S st κ) hm
  simp only [stepD] at h
  split at h
  · rename_i nl nc hl hc
    split at h
    · rename_i hcond
      obtain ⟨c1, c2, c3, c4, c5, c6⟩ := hcond
      cases h
      obtain ⟨kl, el⟩ := asNat_inv hl (hs.ev l)
      obtain ⟨kc, ec⟩ := asNat_inv hc (hs.ev c)
      have hzs : zv.cells.size = ie.size := by rw [← Array.length_toList, ← m1, c4]
      rw [el, ec]
      refine ⟨_, _, run_make w t e ie zv hu hie hzv kl kc nl nc (by omega) (by omega) (by rw [← Int.natCast_mul]; rw [Nat.mul_comm]; omega) (by omega), ?_⟩
      simp only [Int.toNat_natCast]
      have hsize : (madeCells zv.cells (nc * ie.size)).size = nc * ie.size := size_madeCells _ _
      have hlaid : Laid w (x.S st κ) κ ie.size (.p (List.replicate nc z)) (madeCells zv.cells (nc * ie.size)).toList := by
        refine ⟨by simp [Rows.len, hsize], fun r hr => by rw [(List.mem_replicate.1 hr).2, c4], fun i j d hd => ?_⟩
        have hw : (Rows.p (List.replicate nc z)).wf ie.size := fun r hr => by rw [(List.mem_replicate.1 hr).2, c4]
        obtain ⟨hi', hj⟩ := Rows.at_wf hw hd
        simp only [Rows.len, List.length_replicate] at hi'
        simp only [Rows.at, rowAt, List.getElem?_replicate, hi', if_true, Option.bind_some, Option.map_eq_some_iff] at hd
        obtain ⟨p, hp, rfl⟩ := hd
        have hlt : i * ie.size + j < nc * ie.size := by
          have := Nat.mul_le_mul_right ie.size (show i + 1 ≤ nc by omega)
          rw [Nat.add_mul] at this
          omega
        have hmod : (i * ie.size + j) % zv.cells.size = j := by rw [hzs, Nat.mul_comm, Nat.mul_add_mod, Nat.mod_eq_of_lt hj]
        have hjz : j < zv.cells.size := by rw [hzs]; exact hj
        have h1 := m2 j p _ hp (List.getElem?_eq_getElem (by simpa using hjz))
        refine ⟨zv.cells[j], ?_, ?_, .p _ _ (by simpa using h1)⟩
        · simp [madeCells, hlt, hmod, getElem!_pos zv.cells j hjz]
        · have := leaf_one (.p _ _ h1 : DRel w (x.S st κ) κ (.p p) _) (by have := List.all_eq_true.1 c6 p (List.mem_of_getElem? hp); simpa [DV.leaf] using this)
          simpa using this
      exact hs.fresh k hk _ _ _ hlaid (fun i j d hd => at_pure_refs hd) w (Fr.refl _ _) _ _ (fun i v hv => by simpa using hv) _ _
        (fun S => own_rel _ _ _ _ _ _ (upd_same _ _ _) c1 (Nat.le_refl _) (by unfold maxLen; omega) _ e (0, 0) (heap_alloc_new w _) (by rw [hsize]; exact Nat.le_refl _))
    · cases h
  · cases h

theorem Laid.mono {S' : Nat → Prop} {w' : World} {sz : Nat} {rows : Rows} {vs : List Value} (h : Laid w S κ sz rows vs) (hk : Keep S w w') (hS : ∀ b, b < w.heap.size → S' b → S b) : Laid w' S' κ sz rows vs :=
  ⟨h.1, h.2.1, fun i j d hd => let ⟨v, h1, h2, h3⟩ := h.2.2 i j d hd; ⟨v, h1, h2, h3.mono hk hS⟩⟩
theorem Laid.purge {sz : Nat} {rows : Rows} {vs : List Value} (k : Nat) (h : Laid w S κ sz rows vs) : Laid w S κ sz (rows.purge k) vs :=
  ⟨by rw [Rows.len_purge]; exact h.1, Rows.wf_purge k h.2.1, fun i j d hd => by
    obtain ⟨d', hd', rfl⟩ := Rows.at_purge _ _ _ _ _ hd
    obtain ⟨v, h1, h2, h3⟩ := h.2.2 i j d' hd'
    exact ⟨v, h1, h2, h3.purge k (fun _ _ => rfl)⟩⟩
theorem purge_refs (d : DV) (k : Nat) : (d.purge k).refs k = false := by
  unfold DV.purge
  cases h : d.refs k with
  | true => rfl
  | false => simpa using h
theorem at_purge_refs {rows : Rows} {k i j : Nat} {d : DV} (h : (rows.purge k).at i j = some d) : d.refs k = false := by
  obtain ⟨d', _, rfl⟩ := Rows.at_purge _ _ _ _ _ h
  exact purge_refs _ _

theorem rowAt_append {α : Type} (A B : List (List α)) (i j : Nat) : rowAt (A ++ B) i j = if i < A.length then rowAt A i j else rowAt B (i - A.length) j := by
  unfold rowAt
  split
  · rename_i h; rw [List.getElem?_append_left h]
  · rename_i h; rw [List.getElem?_append_right (by omega)]
theorem Rows.toM_at (r : Rows) (i j : Nat) : rowAt r.toM i j = r.at i j := by
  cases r with
  | p r => simp only [Rows.toM, Rows.at]; rw [rowAt_map]
  | m r => rfl
theorem Rows.toM_len (r : Rows) : r.toM.length = r.len := by cases r <;> simp [Rows.toM, Rows.len]
theorem Rows.app_at (A B : Rows) (i j : Nat) : (A.app B).at i j = if i < A.len then A.at i j else B.at (i - A.len) j := by
  have gen : rowAt (A.toM ++ B.toM) i j = if i < A.len then A.at i j else B.at (i - A.len) j := by
    rw [rowAt_append, Rows.toM_len, Rows.toM_at, Rows.toM_at]
  cases A with
  | m a => exact gen
  | p a => cases B with
    | m b => exact gen
    | p b =>
      simp only [Rows.app, Rows.at, rowAt_append, Rows.len]
      split <;> simp [*]
theorem Rows.app_len (A B : Rows) : (A.app B).len = A.len + B.len := by
  cases A <;> cases B <;> simp [Rows.app, Rows.len, Rows.toM]
theorem Rows.toM_wf {A : Rows} {sz : Nat} (h : A.wf sz) : ∀ r, r ∈ A.toM → r.length = sz := by
  cases A with
  | m a => exact h
  | p a =>
    intro r hr
    simp only [Rows.toM, List.mem_map] at hr
    obtain ⟨y, hy, rfl⟩ := hr
    simpa using h y hy
theorem Rows.app_wf {A B : Rows} {sz : Nat} (ha : A.wf sz) (hb : B.wf sz) : (A.app B).wf sz := by
  have gen : ∀ r, r ∈ A.toM ++ B.toM → r.length = sz := fun r hr => by
    rcases List.mem_append.1 hr with hr | hr
    · exact Rows.toM_wf ha r hr
    · exact Rows.toM_wf hb r hr
  cases A with
  | m a => exact gen
  | p a => cases B with
    | m b => exact gen
    | p b =>
      intro r hr
      rcases List.mem_append.1 hr with hr | hr
      · exact ha r hr
      · exact hb r hr

theorem Laid.app {sz : Nat} {A B : Rows} {us vs : List Value} (ha : Laid w S κ sz A us) (hb : Laid w S κ sz B vs) : Laid w S κ sz (A.app B) (us ++ vs) := by
  refine ⟨by rw [List.length_append, ha.1, hb.1, Rows.app_len, Nat.add_mul], Rows.app_wf ha.2.1 hb.2.1, fun i j d hd => ?_⟩
  rw [Rows.app_at] at hd
  split at hd
  · obtain ⟨v, h1, h2⟩ := ha.2.2 i j d hd
    exact ⟨v, by rw [List.getElem?_append_left (List.getElem?_eq_some_iff.1 h1).1]; exact h1, h2⟩
  · rename_i hlt
    obtain ⟨v, h1, h2⟩ := hb.2.2 _ j d hd
    refine ⟨v, ?_, h2⟩
    have hle : A.len * sz ≤ i * sz := Nat.mul_le_mul_right sz (by omega)
    rw [List.getElem?_append_right (by rw [ha.1]; omega), ha.1, ← h1, Nat.sub_mul]
    congr 1
    omega

/-- an object's rows, as its block holds them -/
theorem ob_laid {k : Nat} {ob : Ob} (h : ObRel w S κ k ob) (n : Nat) (hn : n ≤ ob.rows.len) : ∃ cur e, w.heap[κ k]? = some (.cells cur e (0, 0)) ∧ ob.rows.len * ob.sz ≤ cur.size ∧
    ∃ vs, Laid w S κ ob.sz (ob.rows.take n) vs ∧ ∀ q, q < n * ob.sz → ∃ v, vs[q]? = some v ∧ cur[q]? = some v := by
  obtain ⟨wf, cur, e, hb, hlen, hc⟩ := h
  have hl : (ob.rows.take n).len = n := by rw [Rows.len_take]; omega
  refine ⟨cur, e, hb, hlen, _, laid_of (Rows.wf_take n wf) hl (fun i j => cur[i * ob.sz + j]?.getD undef) (fun i j d hd => ?_), fun q hq => ?_⟩
  · obtain ⟨v, g1, g2, g3⟩ := hc _ _ _ (Rows.at_take hd)
    rw [g1]
    exact ⟨g2, g3⟩
  · obtain ⟨g1, g2, g3⟩ := split_idx hq
    obtain ⟨d, hd⟩ := Rows.at_some wf (show q / ob.sz < ob.rows.len by omega) g2
    obtain ⟨v, hv, _⟩ := hc _ _ _ hd
    rw [← g3] at hv
    exact ⟨v, by simp [hq, ← g3, hv], hv⟩

theorem Sat.dropOb (h : Sat x st κ a w) (k : Nat) : Sat x (st.drop k) κ a w := by
  have hold : ∀ {i : Nat} {ob' : Ob}, lk (st.drop k).H i = some ob' → ∃ o, lk st.H i = some o ∧ ob' = { o with rows := o.rows.purge k } := by
    intro i ob' hi
    simp only [St.drop, lk_purgeH] at hi
    split at hi
    · cases hi
    · cases hl : lk st.H i with
      | none => simp [hl] at hi
      | some o => simp only [hl, Option.map_some, Option.some.injEq] at hi; exact ⟨o, rfl, hi.symm⟩
  have hS : ∀ c, c < w.heap.size → x.S (st.drop k) κ c → x.S st κ c := by
    rintro c _ (hs | ⟨i, ob', hi, hro', he⟩)
    · exact .inl hs
    · obtain ⟨o, ho, rfl⟩ := hold hi
      exact .inr ⟨i, o, ho, hro', he⟩
  have hm : ∀ {d : DV} {v : Value}, DRel w (x.S st κ) κ d v → DRel w (x.S (st.drop k) κ) κ (d.purge k) v := fun h => (h.mono (Keep.refl _ _) hS).purge k (fun _ _ => rfl)
  refine ⟨h.ds, h.nt, ?_, ?_, ?_, ?_, h.fr, h.s0, h.pin⟩
  · intro i d hi
    simp only [St.drop, lk_purgeT] at hi
    cases hl : lk st.T i with
    | none => simp [hl] at hi
    | some o => simp only [hl, Option.map_some, Option.some.injEq] at hi; rw [← hi]; exact hm (h.T i o hl)
  · intro i ob' hi
    obtain ⟨o, ho, rfl⟩ := hold hi
    obtain ⟨wf, cur, ee, hb', hs, hc⟩ := h.H i o ho
    refine ⟨Rows.wf_purge k wf, cur, ee, hb', by rw [Rows.len_purge]; exact hs, fun i' j' d' hd' => ?_⟩
    obtain ⟨d0, h0, rfl⟩ := Rows.at_purge _ _ _ _ _ hd'
    obtain ⟨v', h1, h2, h3⟩ := hc _ _ _ h0
    exact ⟨v', h1, h2, hm h3⟩
  · intro i i' o1 o2 h1 h2 he
    obtain ⟨_, g1, _⟩ := hold h1
    obtain ⟨_, g2, _⟩ := hold h2
    exact h.inj _ _ _ _ g1 g2 he
  · intro i ob' hi
    obtain ⟨_, g1, _⟩ := hold hi
    exact h.mine _ _ g1

theorem setCells_heap (b : Nat) (e : TypeId) : ∀ (vs : List Value) (o : Nat) (w : World) (cur : Array Value), w.heap[b]? = some (.cells cur e (0, 0)) →
    (∃ cur', (w.setCells b o vs).heap[b]? = some (.cells cur' e (0, 0)) ∧ cur'.size = cur.size ∧ ∀ q, cur'[q]? = if o ≤ q ∧ q < o + vs.length ∧ q < cur.size then vs[q - o]? else cur[q]?) ∧ Fr (fun c => c = b) w (w.setCells b o vs)
  | [], o, w, cur, h => ⟨⟨cur, h, rfl, fun q => by rw [if_neg (by simp only [List.length_nil]; omega)]⟩, Fr.refl _ _⟩
  | v :: r, o, w, cur, h => by
    have h1 : (w.setCell ⟨b, o, none⟩ v).heap[b]? = some (.cells (cur.setIfInBounds o v) e (0, 0)) := by
      simp [World.setCell, Array.getElem?_modify, h]
    obtain ⟨⟨cur', g1, g2, g3⟩, g4⟩ := setCells_heap b e r (o + 1) _ _ h1
    refine ⟨⟨cur', g1, by rw [g2]; simp, fun q => ?_⟩, ?_⟩
    · rw [g3]
      simp only [Array.size_setIfInBounds, List.length_cons]
      by_cases hq : q = o
      · subst hq
        rw [if_neg (by omega)]
        by_cases hs : q < cur.size
        · rw [if_pos ⟨by omega, by omega, hs⟩]; simp [hs]
        · rw [if_neg (by omega)]; simp [hs]
      · by_cases hr : o + 1 ≤ q ∧ q < o + 1 + r.length ∧ q < cur.size
        · rw [if_pos hr, if_pos ⟨by omega, by omega, hr.2.2⟩]
          obtain ⟨m, hm⟩ : ∃ m, q - o = m + 1 := ⟨q - o - 1, by omega⟩
          rw [hm, List.getElem?_cons_succ]
          congr 1
          omega
        · rw [if_neg hr, if_neg (by omega)]
          simp [Ne.symm hq]
    · refine Fr.trans (b := w.setCell ⟨b, o, none⟩ v) ⟨rfl, rfl, rfl, by simp [World.setCell], fun c hc hne => RowKit.Below.heap_setCell _ _ _ _ hne, fun c cur0 e0 fr0 hc => ?_⟩ g4
      by_cases hcb : c = b
      · subst hcb
        rw [h] at hc
        cases hc
        exact ⟨_, _, h1, by simp⟩
      · exact ⟨cur0, fr0, by rw [RowKit.Below.heap_setCell _ _ _ _ hcb]; exact hc, rfl⟩

theorem nextcap_bound (need cap bytes : Nat) (h : cap < need) (hb : need * bytes ≤ 140737488355328) : Builtin.nextslicecap need cap * bytes ≤ 281474976710656 := by
  have grow : ∀ (r c : Nat), c ≤ 2 * need → c < need → Builtin.growBy need r c ≤ 2 * need ∨ need < 768 := by
    intro r
    induction r with
    | zero => intro c hc _; exact .inl hc
    | succ r ih =>
      intro c hc hlt
      simp only [Builtin.growBy]
      by_cases h768 : need < 768
      · exact .inr h768
      · rw [if_neg (by omega)]
        by_cases h2 : c + (c + 768) / 4 < need
        · exact ih _ (by omega) h2
        · left
          have : Builtin.growBy need r (c + (c + 768) / 4) = c + (c + 768) / 4 := by
            cases r with
            | zero => rfl
            | succ r => simp only [Builtin.growBy]; rw [if_pos (by omega)]
          rw [this]
          omega
  have key : Builtin.nextslicecap need cap ≤ 2 * need := by
    unfold Builtin.nextslicecap
    split
    · omega
    · split
      · omega
      · rename_i h1 h2
        have small : ∀ (r c : Nat), 256 ≤ c → c < need → Builtin.growBy need r c ≤ 2 * need := by
          intro r
          induction r with
          | zero => intro c _ _; simp only [Builtin.growBy]; omega
          | succ r ih =>
            intro c hc hlt
            simp only [Builtin.growBy]
            rw [if_neg (by omega)]
            by_cases h2 : c + (c + 768) / 4 < need
            · exact ih _ (by omega) h2
            · have : Builtin.growBy need r (c + (c + 768) / 4) = c + (c + 768) / 4 := by
                cases r with
                | zero => rfl
                | succ r => simp only [Builtin.growBy]; rw [if_pos (by omega)]
              rw [this]
              omega
        exact small 4 cap (by omega) h
  calc Builtin.nextslicecap need cap * bytes ≤ (2 * need) * bytes := Nat.mul_le_mul_right _ key
    _ = 2 * (need * bytes) := by rw [Nat.mul_assoc]
    _ ≤ 281474976710656 := by omega

/-- growth: a new row that holds the old cells, the new ones, and zeros -/
theorem app_grow (hs : Sat x st κ a w) (k : Nat) (hk : k < st.nt) {t tx ty e : TypeId} {ie : TypeInfo} {zv : Value} (hu : P.underlying t = some (.slice e)) (hie : P.info? e = some ie) (hzv : ie.zero = some zv) (hzs : zv.cells.size = ie.size)
    {rows src : Rows} {olds news : List Value} {n m cap : Nat} {base : Option Addr} (ho : Laid w (x.S st κ) κ ie.size rows olds) (hn : rows.len = n) (hm : src.len = m) (hsn : Laid w (x.S st κ) κ ie.size src news)
    (hold : (Builtin.firstCells ie.size n (.slice base n cap)).run P w.drew = .ok olds.toArray w.drew) {y : Value} (hsrc : Src P ie.size tx y m news w) (hg : cap < n + m) (hb : (n + m) * ie.bytes ≤ 140737488355328) (hmx : n + m ≤ maxLen)
    (hr : ∀ i j d, (rows.app src).at i j = some d → d.refs k = false) :
    ∃ v w', (Builtin.append_ #[t, tx] ty #[.slice base n cap, y]).run P w = .ok v w' ∧ Sat x (st.new k ⟨false, ie.size, rows.app src⟩ (.own k ie.size 0 (n + m) (n + m))) (upd κ k w.heap.size) (a.put (some k) v) w' := by
  have hmx' : n + m ≤ 9223372036854775807 := hmx
  refine ⟨_, _, run_append_grow_src w t tx ty e ie zv hu hie hzv base n cap olds hold y m news hsrc hg (by omega) (nextcap_bound _ _ _ hg hb), ?_⟩
  have hcap := grownCap_ge w (n + m) cap e
  have hcm := grownCap_le_maxLen w (n + m) cap e hmx
  have hla := ho.app hsn
  have hlen : (olds ++ news).length = (n + m) * ie.size := by rw [hla.1, Rows.app_len, hn, hm]
  have hsize : ((olds ++ news).toArray ++ Builtin.zeroCells zv.cells (grownCap w (n + m) cap e - (n + m))).size = grownCap w (n + m) cap e * ie.size := by
    rw [Array.size_append, size_zeroCells, hzs, List.size_toArray, hlen, ← Nat.add_mul]
    congr 1
    omega
  have := hs.fresh k hk ie.size (rows.app src) (olds ++ news) hla hr w.drew (Fr.drew _ _) ((olds ++ news).toArray ++ Builtin.zeroCells zv.cells (grownCap w (n + m) cap e - (n + m))) e
    (fun i v hv => by
      have hlt := (List.getElem?_eq_some_iff.1 hv).1
      rw [Array.getElem?_append_left (by simpa using hlt)]
      simpa using hv)
    (.own k ie.size 0 (n + m) (n + m)) (.slice (some ⟨w.drew.heap.size, 0, none⟩) (n + m) (grownCap w (n + m) cap e))
    (fun S => own_rel _ _ _ _ _ _ (upd_same _ _ _) (Nat.le_refl _) hcap hcm _ e (0, 0) (heap_alloc_new w.drew _) (by rw [hsize]; exact Nat.le_refl _))
  exact this

theorem nil_inv {w : World} {S : Nat → Prop} {sz : Nat} {rows sp : List (List PV)} {v : Value} (h : PRel w S (.sl (some true) sz rows sp) v) : v = .slice none 0 0 ∧ rows = [] ∧ sp = [] := by
  cases h with
  | slnil => exact ⟨rfl, rfl, rfl⟩
  | sl o ho => exact absurd rfl ho
  | slz _ _ ho => exact absurd rfl ho

theorem purge_p (k : Nat) (v : PV) : DV.purge k (.p v) = .p v := by simp [DV.purge, DV.refs]
theorem map_purge_p (k : Nat) (l : List PV) : (l.map DV.p).map (DV.purge k) = l.map DV.p := by
  induction l with
  | nil => rfl
  | cons a r ih => simp [purge_p]
theorem rows_purge_p (k : Nat) (rs : List (List PV)) : (rs.map (·.map DV.p)).map (·.map (DV.purge k)) = rs.map (·.map DV.p) := by
  rw [List.map_map]
  apply List.map_congr_left
  intro r _
  exact map_purge_p k r
theorem Rows.app_purge (A B : Rows) (k : Nat) : (A.app B).purge k = (A.purge k).app (B.purge k) := by
  cases A <;> cases B <;> simp only [Rows.app, Rows.purge, Rows.toM, List.map_append, rows_purge_p]

/-- the machine's slice stays; its object gets another key and the rows R -/
theorem app_same (hs : Sat x st κ a w) (k0 k : Nat) (hk : k < st.nt) {ob : Ob} (hob : lk st.H k0 = some ob) (hro : ob.ro = false) (rows : Rows) (hw : rows.wf ob.sz) (hl0 : rows.len = 0) (v : Value) (hd : ∀ S, DRel w S (upd κ k (κ k0)) (.own k ob.sz 0 0 0) v) :
    Sat x ((st.drop k0).new k ⟨false, ob.sz, rows⟩ (.own k ob.sz 0 0 0)) (upd κ k (κ k0)) (a.put (some k) v) w := by
  obtain ⟨wf, cur, e, hb, hlen, hc⟩ := hs.H k0 ob hob
  refine hs.move k0 ob hob hro k hk ⟨false, ob.sz, rows⟩ (.own k ob.sz 0 0 0) v (Fr.refl _ _) (fun S _ => ⟨hw, cur, e, by rw [upd_same]; exact hb, ?_, fun i j d h => ?_⟩) (fun S _ => hd S)
  · show rows.len * ob.sz ≤ _
    rw [hl0]; omega
  · have := (Rows.at_wf hw h).1
    omega

theorem d_app (hs : Sat x st κ a w) {t tx ty e : TypeId} (hu : P.underlying t = some (.slice e)) {ie : TypeInfo} (hie : P.info? e = some ie) {z : List PV} (hz : zeroOf P e = some z) (hzl : z.length = ie.size)
    (hkx : (∃ e', P.underlying tx = some (.slice e')) ∨ P.underlying tx = some .string) (y1 y2 : Operand) (k : Nat) (hk : k < st.nt) {st' : St}
    (h : stepD st (some k) (.app ie.size ie.bytes (opd y1) (opd y2)) = some st') :
    ∃ v w' κ', (Builtin.append_ #[t, tx] ty #[a.eval y1, a.eval y2]).run P w = .ok v w' ∧ Sat x st' κ' (a.put (some k) v) w' := by
  obtain ⟨it, zv, hi, hzv, hm⟩ := zeroOf_inv hz
  rw [hie] at hi
  cases hi
  have hzs : zv.cells.size = ie.size := by rw [← Array.length_toList, ← (mapM_pvOf (w := w) (S := x.S st κ) hm).1, hzl]
  have hy1 := hs.ev y1
  simp only [stepD] at h
  split at h
  · rename_i src hsrc
    split at h
    · rename_i hsz
      obtain ⟨news, hs1, hs2⟩ := src_rel (P := P) hs y2 hsz hsrc hkx
      have hempty : ∀ (base : Option Addr) (n cap : Nat), n ≤ cap → src.len = 0 → (base = none ∨ ∃ b o, base = some ⟨b, o, none⟩) → (Builtin.append_ #[t, tx] ty #[.slice base n cap, a.eval y2]).run P w = .ok (.slice base n cap) w := by
        intro base n cap hle h0 hbase
        have hnews : news = [] := List.eq_nil_of_length_eq_zero (by rw [hs2.1, h0, Nat.zero_mul])
        subst hnews
        rw [h0] at hs1
        rcases hs1.kind with ⟨e', hk⟩ | hk <;> rcases hbase with rfl | ⟨b, o, rfl⟩ <;>
          simp [Builtin.append_, run_underlying hu, run_underlying hk, sizeOf, typeInfo, hie, hs1.len, hle, hs1.cells, storeCells]
      generalize a.eval y1 = u1 at hy1 ⊢
      split at h
      · rename_i b sz' rows sp he
        rw [he] at hy1
        cases hy1 with | p _ _ hy1 =>
        obtain ⟨rfl, rfl, rfl⟩ := nil_inv hy1
        split at h
        · rename_i h0
          cases h
          exact ⟨_, w, κ, hempty none 0 0 (Nat.le_refl _) h0 (.inl rfl), hs.set k hk _ _ (.p _ _ (.slnil _ _ (by simp)))⟩
        · rename_i h0
          split at h
          · rename_i hc
            cases h
            have hpr : (Rows.p []).app (src.purge k) = src.purge k := by
              cases src with
              | p r => simp [Rows.app, Rows.purge]
              | m r => simp [Rows.app, Rows.purge, Rows.toM]
            have hlen : (src.purge k).len = src.len := Rows.len_purge _ _
            obtain ⟨v, w', g1, g2⟩ := app_grow (P := P) hs k hk (ty := ty) hu hie hzv hzs (rows := .p []) (src := src.purge k) (olds := []) (news := news) (n := 0) (m := src.len) (cap := 0) (base := none) (y := a.eval y2)
              ⟨by simp [Rows.len], (fun r hr => (by cases hr)), fun i j d hd => (by simp [Rows.at, rowAt] at hd)⟩ rfl hlen (hs2.purge k) (by simp [Builtin.firstCells]) hs1 (by omega) (by simpa using hc.1) (by simpa using hc.2)
              (fun i j d hd => by rw [hpr] at hd; exact at_purge_refs hd)
            rw [hpr] at g2
            simp only [Nat.zero_add] at g2
            exact ⟨v, w', _, g1, g2⟩
          · cases h
      · rename_i k0 sz' len room he
        split at h
        · rename_i hsz'
          subst hsz'
          split at h
          · rename_i ob hob
            split at h
            · rename_i hc
              obtain ⟨c1, c2, c3, c4, c5⟩ := hc
              cases h
              rw [he] at hy1
              have hobr := hs.H k0 ob hob
              obtain ⟨cur, eo, hblk, hfit0, olds, holds, hcell⟩ := ob_laid hobr len c3
              rw [c2] at holds hcell hfit0
              have hll : (ob.rows.take len).len = len := by rw [Rows.len_take]; omega
              -- growth
              have grow : ∀ (base : Option Addr) (cap : Nat), cap < len + src.len → (Builtin.firstCells ie.size len (.slice base len cap)).run P w.drew = .ok olds.toArray w.drew →
                  ∃ v w' κ', (Builtin.append_ #[t, tx] ty #[.slice base len cap, a.eval y2]).run P w = .ok v w' ∧
                    Sat x ((st.drop k0).new k ⟨false, ie.size, (((ob.rows.take len).app src).purge k0).purge k⟩ (.own k ie.size 0 (len + src.len) (len + src.len))) κ' (a.put (some k) v) w' := by
                intro base cap hg hfc
                have hd := hs.dropOb k0
                have hSd : ∀ c, c < w.heap.size → x.S (st.drop k0) κ c → x.S st κ c := by
                  rintro c _ (hs' | ⟨i, ob', hi, hro', he'⟩)
                  · exact .inl hs'
                  · simp only [St.drop, lk_purgeH] at hi
                    split at hi
                    · cases hi
                    · cases hl : lk st.H i with
                      | none => simp [hl] at hi
                      | some o => simp only [hl, Option.map_some, Option.some.injEq] at hi; exact .inr ⟨i, o, hl, by rw [← hi] at hro'; exact hro', he'⟩
                have e1 : (((ob.rows.take len).app src).purge k0).purge k = ((((ob.rows.take len).purge k0).purge k).app ((src.purge k0).purge k)) := by
                  rw [Rows.app_purge, Rows.app_purge]
                have hlA : (((ob.rows.take len).purge k0).purge k).len = len := by rw [Rows.len_purge, Rows.len_purge, hll]
                have hlB : ((src.purge k0).purge k).len = src.len := by rw [Rows.len_purge, Rows.len_purge]
                obtain ⟨v, w', g1, g2⟩ := app_grow (P := P) hd k hk (ty := ty) hu hie hzv hzs (rows := ((ob.rows.take len).purge k0).purge k) (src := (src.purge k0).purge k) (olds := olds) (news := news) (n := len) (m := src.len) (cap := cap) (base := base) (y := a.eval y2)
                  (((holds.mono (Keep.refl _ _) hSd).purge k0).purge k) hlA hlB (((hs2.mono (Keep.refl _ _) hSd).purge k0).purge k) hfc hs1 hg c4 c5
                  (fun i j d hd => by rw [← e1] at hd; exact at_purge_refs hd)
                rw [← e1] at g2
                exact ⟨v, w', _, g1, g2⟩
              cases hy1 with
              | own _ _ _ _ _ cap o h2 h3 h4 h5 cur' e' fr hb' hfit =>
                have hb2 := hb'
                rw [hblk] at hb2
                cases hb2
                have hro0 : len = 0 ∨ o = 0 := by rcases h5 with h5 | h5; (left; omega); (right; omega)
                by_cases hfitc : len + src.len ≤ cap
                · -- in place
                  by_cases hcap0 : cap = 0
                  · have hl0 : len = 0 := by omega
                    have hs0 : src.len = 0 := by omega
                    subst hl0
                    have e0 : (((ob.rows.take 0).app src).purge k0).purge k = (((ob.rows.take 0).app src).purge k0).purge k := rfl
                    have := app_same hs k0 k hk hob c1 ((((ob.rows.take 0).app src).purge k0).purge k) (Rows.wf_purge _ (Rows.wf_purge _ (Rows.app_wf (Rows.wf_take 0 hobr.wf) (by rw [c2]; exact hs2.2.1)))) (by rw [Rows.len_purge, Rows.len_purge, Rows.app_len, hll, hs0])
                      (.slice (some ⟨κ k0, o, none⟩) 0 cap) (fun S => by
                        have := DRel.own (w := w) (S := S) (κ := upd κ k (κ k0)) k ob.sz 0 0 0 cap o (Nat.le_refl _) (Nat.zero_le _) h4 (.inl hcap0) cur eo (0, 0) (by rw [upd_same]; exact hblk) (.inr hcap0)
                        rwa [upd_same] at this)
                    rw [c2] at this
                    rw [hs0]
                    exact ⟨_, w, _, hempty _ _ _ (by omega) hs0 (.inr ⟨_, _, rfl⟩), this⟩
                  · have ho : o = 0 := by rcases h5 with h5 | h5 <;> omega
                    subst ho
                    have hcs : cap * ie.size ≤ cur.size := by rcases hfit with hfit | hfit <;> omega
                    have hnl : news.length = src.len * ie.size := hs2.1
                    have hneed : len * ie.size + news.length ≤ cur.size := by
                      rw [hnl, ← Nat.add_mul]
                      exact Nat.le_trans (Nat.mul_le_mul_right _ hfitc) hcs
                    have hrun := run_append_room_src (P := P) w t tx ty e ie hu hie (κ k0) 0 len cap (a.eval y2) src.len news hs1 hfitc
                      (fun j hj => by simp [World.cell?, hblk, show len * ie.size + j < cur.size by omega])
                      (fun j hj => by simp [World.frozen?, hblk])
                    rw [Nat.zero_add] at hrun
                    obtain ⟨⟨cur', g1, g2, g3⟩, g4⟩ := setCells_heap (κ k0) eo news (len * ie.size) w cur hblk
                    refine ⟨_, _, _, hrun, hs.move k0 ob hob c1 k hk ⟨false, ie.size, (((ob.rows.take len).app src).purge k0).purge k⟩ (.own k ie.size 0 (len + src.len) (len + src.len)) _ g4 (fun S hS => ?_) (fun S hS => ?_)⟩
                    · have hla := holds.app hs2
                      have hkeep : Keep (x.S st κ) w (w.setCells (κ k0) (len * ie.size) news) := g4.keep (fun b _ e => by rw [e]; exact Sat.ownedBlock hob c1)
                      refine ⟨Rows.wf_purge _ (Rows.wf_purge _ hla.2.1), cur', eo, by rw [upd_same]; exact g1, ?_, fun i j d hd => ?_⟩
                      · show ((((ob.rows.take len).app src).purge k0).purge k).len * ie.size ≤ cur'.size
                        rw [Rows.len_purge, Rows.len_purge, Rows.app_len, hll, g2, Nat.add_mul, ← hnl]
                        exact hneed
                      · obtain ⟨d1, hd1, rfl⟩ := Rows.at_purge _ _ _ _ _ hd
                        obtain ⟨d0, hd0, rfl⟩ := Rows.at_purge _ _ _ _ _ hd1
                        obtain ⟨v, q1, q2, q3⟩ := hla.2.2 i j d0 hd0
                        refine ⟨v, ?_, q2, ((q3.mono hkeep hS).purge k0 (fun _ _ => rfl)).purge k (fun j hj => upd_ne _ _ _ _ hj)⟩
                        show cur'[i * ie.size + j]? = some v
                        rw [g3]
                        have hol : olds.length = len * ie.size := by rw [holds.1, hll]
                        by_cases hq : i * ie.size + j < len * ie.size
                        · rw [if_neg (by omega)]
                          rw [List.getElem?_append_left (by omega)] at q1
                          obtain ⟨v', p1, p2⟩ := hcell _ hq
                          rw [q1] at p1
                          cases p1
                          exact p2
                        · rw [List.getElem?_append_right (by omega), hol] at q1
                          have hlt := (List.getElem?_eq_some_iff.1 q1).1
                          rw [if_pos ⟨by omega, by omega, by omega⟩]
                          exact q1
                    · exact own_rel _ _ _ _ _ _ (upd_same _ _ _) (Nat.le_refl _) hfitc h4 cur' eo (0, 0) g1 (by rw [g2]; exact hcs)
                · refine grow _ _ (by omega) ?_
                  have hol : olds.length = len * ie.size := by rw [holds.1, hll]
                  rcases hro0 with hl0 | ho
                  · subst hl0
                    have : olds = [] := List.eq_nil_of_length_eq_zero (by rw [hol, Nat.zero_mul])
                    subst this
                    simp [Builtin.firstCells, loadCells, loadCellsFrom]
                  · subst ho
                    refine run_firstCells_some w.drew ie.size len _ len cap olds hol (fun j v hv => ?_)
                    rw [Addr.add_mid]
                    obtain ⟨v', p1, p2⟩ := hcell j (by rw [← hol]; exact (List.getElem?_eq_some_iff.1 hv).1)
                    rw [hv] at p1
                    cases p1
                    show w.cell? _ = some _
                    simp [World.cell?, hblk, p2]
              | ownnil =>
                by_cases h0 : src.len = 0
                · have := app_same hs k0 k hk hob c1 ((((ob.rows.take 0).app src).purge k0).purge k) (Rows.wf_purge _ (Rows.wf_purge _ (Rows.app_wf (Rows.wf_take 0 hobr.wf) (by rw [c2]; exact hs2.2.1)))) (by rw [Rows.len_purge, Rows.len_purge, Rows.app_len, hll, h0])
                    (.slice none 0 0) (fun S => .ownnil _ _)
                  rw [c2] at this
                  rw [h0]
                  exact ⟨_, w, _, hempty none 0 0 (Nat.le_refl _) h0 (.inl rfl), this⟩
                · refine grow none 0 (by omega) ?_
                  have : olds = [] := List.eq_nil_of_length_eq_zero (by rw [holds.1, hll, Nat.zero_mul])
                  subst this
                  simp [Builtin.firstCells]
            · cases h
          · cases h
        · cases h
      · cases h
    · cases h
  · cases h
theorem bytesOf_get : ∀ {rows : List (List PV)} {bs : List UInt8}, bytesOf rows = some bs → ∃ ns : List Int, rows = ns.map (fun n => [.int .u8 n]) ∧ bs = ns.map (fun n => UInt8.ofNat n.toNat)
  | [], bs, h => by simp only [bytesOf, Option.some.injEq] at h; exact ⟨[], rfl, h.symm⟩
  | r :: rs, bs, h => by
    simp only [bytesOf] at h
    split at h
    · rename_i b bs' h1 h2
      cases h
      obtain ⟨ns, rfl, rfl⟩ := bytesOf_get h2
      unfold byteOf at h1
      split at h1
      · rename_i n
        cases h1
        exact ⟨n :: ns, rfl, rfl⟩
      · cases h1
    · cases h

theorem push_fold (ns : List Int) : ∀ acc : List UInt8, ns.foldl (fun (r : ByteArray) n => r.push (UInt8.ofNat n.toNat)) ⟨acc.toArray⟩ = ⟨(acc ++ ns.map (fun n => UInt8.ofNat n.toNat)).toArray⟩ := by
  induction ns with
  | nil => intro acc; simp
  | cons n r ih =>
    intro acc
    have e : (⟨acc.toArray⟩ : ByteArray).push (UInt8.ofNat n.toNat) = ⟨(acc ++ [UInt8.ofNat n.toNat]).toArray⟩ := by
      apply ByteArray.ext
      simp [ByteArray.push]
    rw [List.foldl_cons, e, ih]
    simp

theorem y_cvbs (hs : Sat x st κ a w) (y : Operand) {d : DV} (h : evOp st (.cvbs (opd y)) = some d) (t e : TypeId) (hu : P.underlying t = some (.slice e)) :
    ∃ v, (Conv.bytesToString (a.eval y)).run P w = .ok v w ∧ DRel w S κ d v := by
  have hy := hs.ev y
  simp only [evOp] at h
  split at h
  · cases h
  · rename_i hnot
    split at h
    · rename_i rows hrows
      simp only [Option.map_eq_some_iff] at h
      obtain ⟨bs, hbs, rfl⟩ := h
      obtain ⟨news, h1, h2⟩ := src_rel (P := P) (tx := t) hs y (by omega) hrows (.inl ⟨e, hu⟩)
      obtain ⟨ns, rfl, rfl⟩ := bytesOf_get hbs
      have hlen : (Rows.p (ns.map fun n => [PV.int .u8 n])).len = ns.length := by simp [Rows.len]
      have hnl : news.length = ns.length := by rw [h2.1, hlen, Nat.mul_one]
      have hnews : news = ns.map (Value.int .u8) := by
        apply List.ext_getElem?
        intro i
        by_cases hi : i < ns.length
        · obtain ⟨v, g1, _, g3⟩ := h2.2.2 i 0 (.p (.int .u8 ns[i])) (by simp [Rows.at, rowAt, hi])
          rw [Nat.mul_one, Nat.add_zero] at g1
          rw [g1, g3.int_inv]
          simp [hi]
        · rw [List.getElem?_eq_none (by omega), List.getElem?_eq_none (by simp; omega)]
      have hfin : ∀ (o : Option Addr) (len cap : Nat), a.eval y = .slice o len cap → ∃ v, (Conv.bytesToString (a.eval y)).run P w = .ok v w ∧ DRel w S κ (.p (.str (ns.map fun n => UInt8.ofNat n.toNat))) v := by
        intro o len cap hv
        rw [hv] at h1 ⊢
        have hl : len = ns.length := by
          have := h1.len w
          simp only [Builtin.lenOf, Sem.run_pure, Result.ok.injEq] at this
          rw [this.1, hlen]
        cases o with
        | none =>
          have hc := h1.cells
          simp only [Builtin.firstCells, Sem.run_pure, Result.ok.injEq] at hc
          have hn0 : ns = [] := by
            have := hc.1
            rw [hnews] at this
            have := congrArg Array.size this
            simp at this
            exact List.eq_nil_of_length_eq_zero this.symm
          subst hn0
          exact ⟨.string .empty, by simp [Conv.bytesToString], .p _ _ (.str [])⟩
        | some b =>
          have hc := h1.cells
          simp only [Builtin.firstCells, Nat.mul_one, hlen, ← hl] at hc
          rw [hnews] at hc
          refine ⟨_, run_bytesToString w b len cap ns hc, ?_⟩
          have := push_fold ns []
          rw [show ByteArray.empty = ⟨([] : List UInt8).toArray⟩ from rfl, this]
          exact .p _ _ (.str _)
      unfold srcRows at hrows
      generalize a.eval y = u at hy hfin ⊢
      split at hrows
      · rename_i b sz rows sp he
        rw [he] at hy
        cases hy with | p _ _ hy =>
        cases hy with
        | slnil => exact hfin none 0 0 rfl
        | sl => exact hfin _ _ _ rfl
        | slz => exact hfin _ _ _ rfl
      · rename_i k sz s len room he
        rw [he] at hy
        cases hy with
        | own => exact hfin _ _ _ rfl
        | ownnil => exact hfin none 0 0 rfl
      · rename_i s he
        exact (hnot s he).elim
      · cases hrows
    · cases h
end
end Go.Dl
