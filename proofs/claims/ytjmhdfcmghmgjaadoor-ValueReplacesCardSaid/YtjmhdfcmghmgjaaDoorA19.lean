/- Arguments of the laws as pure values, whatever their type (whole numbers, bools, texts, lists, structs): what a row's reading says of the cells. -/
import Derived.Test.YtjmhdfcmghmgjaaDoorA8
import Derived.WalkKit
import Derived.ProofKit
import Derived.OpenShut
import Derived.Deep.Strs
import Derived.Carry
set_option linter.unusedVariables false
set_option linter.unusedSimpArgs false
set_option maxRecDepth 100000
namespace Go.Dl
open Go.ChangeShapes Go.WideShapes Go.ChangeAt Go.RowKit

/-- the cells of a value of a type -/
inductive PTy (P : Program) : TypeId → List PV → Prop
  | int {t : TypeId} {k : IntKind} (n : Int) (h : P.underlying t = some (.int k)) : PTy P t [.int k n]
  | bool {t : TypeId} (b : Bool) (h : P.underlying t = some .bool) : PTy P t [.bool b]
  | str {t : TypeId} (s : List UInt8) (h : P.underlying t = some .string) : PTy P t [.str s]
  | sl {t e : TypeId} (rows : List (List PV)) (h : P.underlying t = some (.slice e)) (hr : ∀ r, r ∈ rows → PTy P e r) : PTy P t [.sl none (P.cellsOf e) rows []]
  | struct {t : TypeId} {fs : Array Field} (pss : List (List PV)) (cells : List PV) (h : P.underlying t = some (.struct fs)) (hl : pss.length = fs.size)
      (hp : ∀ (i : Nat) (f : Field) (ps : List PV), fs[i]? = some f → pss[i]? = some ps → PTy P f.type ps) (he : cells = pss.flatten) : PTy P t cells

section
variable {P : Program} {t : TypeId} {ps : List PV}
theorem PTy.int_inv {k : IntKind} (hu : P.underlying t = some (.int k)) (h : PTy P t ps) : ∃ n, ps = [.int k n] := by
  cases h with
  | int n h => rw [hu] at h; cases h; exact ⟨n, rfl⟩
  | bool b h => rw [hu] at h; cases h
  | str s h => rw [hu] at h; cases h
  | sl rows h hr => rw [hu] at h; cases h
  | struct pss _ h' hl hp he => rw [hu] at h'; cases h'
theorem PTy.bool_inv (hu : P.underlying t = some .bool) (h : PTy P t ps) : ∃ b, ps = [.bool b] := by
  cases h with
  | int n h => rw [hu] at h; cases h
  | bool b h => exact ⟨b, rfl⟩
  | str s h => rw [hu] at h; cases h
  | sl rows h hr => rw [hu] at h; cases h
  | struct pss _ h' hl hp he => rw [hu] at h'; cases h'
theorem PTy.str_inv (hu : P.underlying t = some .string) (h : PTy P t ps) : ∃ s, ps = [.str s] := by
  cases h with
  | int n h => rw [hu] at h; cases h
  | bool b h => rw [hu] at h; cases h
  | str s h => exact ⟨s, rfl⟩
  | sl rows h hr => rw [hu] at h; cases h
  | struct pss _ h' hl hp he => rw [hu] at h'; cases h'
theorem PTy.sl_inv {e : TypeId} (hu : P.underlying t = some (.slice e)) (h : PTy P t ps) : ∃ rows, ps = [.sl none (P.cellsOf e) rows []] ∧ ∀ r, r ∈ rows → PTy P e r := by
  cases h with
  | int n h => rw [hu] at h; cases h
  | bool b h => rw [hu] at h; cases h
  | str s h => rw [hu] at h; cases h
  | sl rows h hr => rw [hu] at h; cases h; exact ⟨rows, rfl, hr⟩
  | struct pss _ h' hl hp he => rw [hu] at h'; cases h'
theorem PTy.struct_inv {fs : Array Field} (hu : P.underlying t = some (.struct fs)) (h : PTy P t ps) : ∃ pss : List (List PV), pss.length = fs.size ∧ ps = pss.flatten ∧
    ∀ (i : Nat) (f : Field) (qs : List PV), fs[i]? = some f → pss[i]? = some qs → PTy P f.type qs := by
  cases h with
  | int n h => rw [hu] at h; cases h
  | bool b h => rw [hu] at h; cases h
  | str s h => rw [hu] at h; cases h
  | sl rows h hr => rw [hu] at h; cases h
  | struct pss _ h' hl hp he => rw [hu] at h'; cases h'; exact ⟨pss, hl, he, hp⟩
end

def offsOk (P : Program) : Nat → List Field → Nat → Bool
  | o, [], n => o == n
  | o, f :: r, n => f.offset == o && offsOk P (o + P.cellsOf f.type) r n
/-- a list of types that is closed: whole numbers, bools, texts, lists, structs -/
def plainB (P : Program) (Cl : List TypeId) : Bool := Cl.all fun t => match P.underlying t with
  | some (.int _) => P.cellsOf t == 1
  | some .bool => P.cellsOf t == 1
  | some .string => P.cellsOf t == 1
  | some (.slice e) => P.cellsOf t == 1 && Cl.contains e && decide (0 < P.cellsOf e)
  | some (.struct fs) => fs.toList.all (fun f => Cl.contains f.type) && offsOk P 0 fs.toList (P.cellsOf t)
  | _ => false

/-- cells, each of which reads as a pure value -/
def CRel (w : World) (ps : List PV) (cs : List Value) : Prop := ps.length = cs.length ∧ ∀ (i : Nat) (c : PV) (v : Value), ps[i]? = some c → cs[i]? = some v → PRel w (fun _ => False) c v ∧ v.oneCell' = true

section
variable {H : Type} {enc : TypeId × Value → H} {P : Program} {w : World} {base : Nat} {spare : Nat → Bool} {held : Bool}

theorem crel_one {c : PV} {v : Value} (h : PRel w (fun _ => False) c v) (h1 : v.oneCell' = true) : CRel w [c] [v] :=
  ⟨rfl, fun i c' v' hc hv => by cases i <;> simp at hc hv; subst hc hv; exact ⟨h, h1⟩⟩

theorem struct_cells : ∀ (fs : List Field) (o N : Nat) (cs : List Value), offsOk P o fs N = true → cs.length = N →
    (∀ f, f ∈ fs → ∃ ps, PTy P f.type ps ∧ ps.length = P.cellsOf f.type ∧ CRel w ps ((cs.drop f.offset).take (P.cellsOf f.type))) →
    ∃ pss : List (List PV), pss.length = fs.length ∧ (∀ (i : Nat) (f : Field) (ps : List PV), fs[i]? = some f → pss[i]? = some ps → PTy P f.type ps) ∧ o + pss.flatten.length = N ∧
      ∀ (j : Nat) (c : PV) (v : Value), pss.flatten[j]? = some c → cs[o + j]? = some v → PRel w (fun _ => False) c v ∧ v.oneCell' = true
  | [], o, N, cs, ho, hl, _ => by
    simp only [offsOk, beq_iff_eq] at ho
    exact ⟨[], rfl, fun i f ps hf => by simp at hf, by simpa using ho, fun j c v hc => by simp at hc⟩
  | f :: r, o, N, cs, ho, hl, hf => by
    simp only [offsOk, Bool.and_eq_true, beq_iff_eq] at ho
    obtain ⟨rfl, ho⟩ := ho
    obtain ⟨ps, hp1, hp2, hp3⟩ := hf f (by simp)
    obtain ⟨pss, h1, h2, h3, h4⟩ := struct_cells r _ N cs ho hl (fun g hg => hf g (by simp [hg]))
    refine ⟨ps :: pss, by simp [h1], fun i g qs hg hq => ?_, by rw [List.flatten_cons, List.length_append]; omega, fun j c v hc hv => ?_⟩
    · cases i with
      | zero => simp at hg hq; subst hg hq; exact hp1
      | succ i => exact h2 i g qs (by simpa using hg) (by simpa using hq)
    · rw [List.flatten_cons] at hc
      by_cases hj : j < ps.length
      · rw [List.getElem?_append_left hj] at hc
        refine hp3.2 j c v hc ?_
        rw [List.getElem?_take_of_lt (by omega), List.getElem?_drop]
        exact hv
      · rw [List.getElem?_append_right (by omega)] at hc
        refine h4 (j - ps.length) c v hc ?_
        rw [← hp2, show f.offset + ps.length + (j - ps.length) = f.offset + j by omega]
        exact hv

theorem trod_pty {Cl : List TypeId} (hB : plainB P Cl = true) (hsp : ∀ b, spare b = true) : ∀ (fuel : Nat) (t : TypeId) (cs : List Value) (x : DataW H × List MemPlace), t ∈ Cl → DataW.trod enc P w base spare held fuel t cs = some x →
    ∃ ps, PTy P t ps ∧ ps.length = P.cellsOf t ∧ CRel w ps cs
  | 0, t, cs, x, _, h => by simp [DataW.trod] at h
  | fuel + 1, t, cs, x, ht, h => by
    have hb := hB
    simp only [plainB, List.all_eq_true] at hb
    have hbt := hb t ht
    split at hbt
    · rename_i k hu
      obtain ⟨n, rfl, _, _⟩ := DataW.trod_int hu h
      exact ⟨[.int k n], .int n hu, by simpa using (beq_iff_eq.1 hbt).symm, crel_one (.int _ _) rfl⟩
    · rename_i hu
      obtain ⟨b, rfl, _⟩ := DataW.trod_bool hu h
      exact ⟨[.bool b], .bool b hu, by simpa using (beq_iff_eq.1 hbt).symm, crel_one (.bool _) rfl⟩
    · rename_i hu
      obtain ⟨s, rfl, _, _⟩ := DataW.trod_string hu h
      refine ⟨[.str s.data.toList], .str _ hu, by simpa using (beq_iff_eq.1 hbt).symm, crel_one ?_ rfl⟩
      have : PRel w (fun _ => False) (.str s.data.toList) (.string ⟨s.data.toList.toArray⟩) := .str _
      simpa using this
    · rename_i e hu
      simp only [Bool.and_eq_true, beq_iff_eq, decide_eq_true_eq, List.contains_iff_mem] at hbt
      obtain ⟨⟨ht1, he⟩, hn⟩ := hbt
      rcases DataW.trod_slice hu h with ⟨rfl, _⟩ | ⟨a, len, cap, elems, rest, n, hfu, rfl, _, hbl, hlc, hmx, hel, hre, hrest, _⟩
      · exact ⟨[.sl none (P.cellsOf e) [] []], .sl [] hu (fun r hr => by simp at hr), by simp [ht1], crel_one (.slnil _ _ (by simp)) rfl⟩
      · obtain rfl : fuel = n := by omega
        have each : ∀ i, ∃ (ds : List Value) (ps : List PV), i < len → PTy P e ps ∧ ps.length = P.cellsOf e ∧ CRel w ps ds ∧ ∀ j, j < P.cellsOf e → w.cell? ((a.add (i * P.cellsOf e)).add j) = ds[j]? := by
          intro i
          by_cases hi : i < len
          · have h1 := hre i hi
            rw [List.getElem?_eq_getElem (by omega), Option.bind_eq_some_iff] at h1
            obtain ⟨ds, hds, hx⟩ := h1
            obtain ⟨ps, p1, p2, p3⟩ := trod_pty hB hsp fuel e ds _ he hx
            exact ⟨ds, ps, fun _ => ⟨p1, p2, p3, (World.cells?_some hds).2.2⟩⟩
          · exact ⟨[], [], fun h => absurd h hi⟩
        obtain ⟨df, pf, hf⟩ : ∃ (df : Nat → List Value) (pf : Nat → List PV), ∀ i, i < len → PTy P e (pf i) ∧ (pf i).length = P.cellsOf e ∧ CRel w (pf i) (df i) ∧ ∀ j, j < P.cellsOf e → w.cell? ((a.add (i * P.cellsOf e)).add j) = (df i)[j]? :=
          ⟨fun i => (each i).choose, fun i => (each i).choose_spec.choose, fun i => (each i).choose_spec.choose_spec⟩
        refine ⟨[.sl none (P.cellsOf e) ((List.range len).map pf) []], .sl _ hu (fun r hr => ?_), by simp [ht1], crel_one ?_ rfl⟩
        · simp only [List.mem_map, List.mem_range] at hr
          obtain ⟨i, hi, rfl⟩ := hr
          exact (hf i hi).1
        · by_cases hc0 : cap = 0
          · obtain rfl : len = 0 := by omega
            subst hc0
            exact .slz none _ (by simp) a
          · have hone : ∃ v, w.cell? a = some v := by
              by_cases hl0 : 0 < len
              · obtain ⟨q1, q2, q3, q4⟩ := hf 0 hl0
                have h5 := q4 0 hn
                have h6 : 0 < (df 0).length := by have := q3.1; omega
                rw [List.getElem?_eq_getElem h6] at h5
                have e0 : (a.add (0 * P.cellsOf e)).add 0 = a := by simp [Addr.add]
                rw [e0] at h5
                exact ⟨_, h5⟩
              · obtain ⟨r1, r2⟩ := hrest (hsp _)
                have h1 := r2 0 (by omega)
                rw [List.getElem?_eq_getElem (by omega), Option.bind_eq_some_iff] at h1
                obtain ⟨ds, hds, _⟩ := h1
                obtain ⟨_, c1, c2⟩ := World.cells?_some hds
                have h5 := c2 0 hn
                have h6 : 0 < ds.length := by omega
                rw [List.getElem?_eq_getElem h6] at h5
                have e0 : (a.add ((len + 0) * P.cellsOf e)).add 0 = a := by
                  rw [show len = 0 by omega]; simp [Addr.add]
                rw [e0] at h5
                exact ⟨_, h5⟩
            obtain ⟨v0, hq⟩ := hone
            have hspot : a.spot = none := World.cell?_spot hq
            have hblk : a.block < w.heap.size := World.block_lt_of_cell? w _ hq
            obtain ⟨b, off, spot⟩ := a
            simp only at hspot hblk hf
            subst hspot
            have key : ∀ (i j : Nat) (c : PV), rowAt ((List.range len).map pf ++ []) i j = some c → i < len ∧ (pf i)[j]? = some c := by
              intro i j c hc
              simp only [List.append_nil, rowAt, List.getElem?_map, Option.bind_eq_some_iff, Option.map_eq_some_iff] at hc
              obtain ⟨r, ⟨k, hk, rfl⟩, hj⟩ := hc
              obtain ⟨hlt, e⟩ := List.getElem?_eq_some_iff.1 hk
              simp at hlt e
              subst e
              exact ⟨hlt, hj⟩
            have at_ : ∀ (i j : Nat) (c : PV), i < len → (pf i)[j]? = some c → ∃ v, (df i)[j]? = some v ∧ w.cell? ⟨b, off + i * P.cellsOf e + j, none⟩ = some v ∧ PRel w (fun _ => False) c v ∧ v.oneCell' = true := by
              intro i j c hi hj
              obtain ⟨q1, q2, q3, q4⟩ := hf i hi
              have hjl := (List.getElem?_eq_some_iff.1 hj).1
              have hjd : j < (df i).length := by rw [← q3.1]; exact hjl
              have h5 := q4 j (by omega)
              rw [add_plain, add_plain, List.getElem?_eq_getElem hjd] at h5
              obtain ⟨r1, r2⟩ := q3.2 j c _ hj (List.getElem?_eq_getElem hjd)
              exact ⟨_, List.getElem?_eq_getElem hjd, h5, r1, r2⟩
            have := PRel.sl (w := w) (S := fun _ => False) none (by simp) (P.cellsOf e) ((List.range len).map pf) [] b off cap (fun i j => (df i).getD j default) (fun h => h) hblk
              (fun r hr => by
                simp only [List.append_nil, List.mem_map, List.mem_range] at hr
                obtain ⟨i, hi, rfl⟩ := hr
                exact (hf i hi).2.1) (by simpa using hlc) hmx
              (fun i j c hc => by
                obtain ⟨hi, hj⟩ := key i j c hc
                obtain ⟨v, v1, v2, v3, v4⟩ := at_ i j c hi hj
                rw [List.getD_eq_getElem?_getD, v1]
                exact ⟨v2, v4⟩)
              (fun i j c hc => by
                obtain ⟨hi, hj⟩ := key i j c hc
                obtain ⟨v, v1, v2, v3, v4⟩ := at_ i j c hi hj
                rw [List.getD_eq_getElem?_getD, v1]
                exact v3)
            simpa using this
    · rename_i fs hu
      simp only [Bool.and_eq_true, List.all_eq_true, List.contains_iff_mem] at hbt
      obtain ⟨hcl, ho⟩ := hbt
      obtain ⟨xs, n, hfu, _, hl, hxl, hx⟩ := DataW.trod_struct hu h
      obtain rfl : fuel = n := by omega
      obtain ⟨pss, h1, h2, h3, h4⟩ := struct_cells (P := P) (w := w) fs.toList 0 (P.cellsOf t) cs ho hl (fun f hf => by
        obtain ⟨i, hi⟩ := List.getElem?_of_mem hf
        have hi' : fs[i]? = some f := by simpa using hi
        have hfx := hx i f hi'
        have hilt : i < xs.length := by rw [hxl]; exact (Array.getElem?_eq_some_iff.1 hi').1
        rw [List.getElem?_eq_getElem hilt] at hfx
        exact trod_pty hB hsp fuel f.type _ _ (hcl f hf) hfx)
      refine ⟨pss.flatten, .struct pss _ hu (by simpa using h1) (fun i f ps hf hp => h2 i f ps (by simpa using hf) hp) rfl, by omega, by omega, fun i c v hc hv => h4 i c v hc (by simpa using hv)⟩
    · cases hbt

/-- an argument that is a list -/
theorem open_sl {Cl : List TypeId} (hB : plainB P Cl = true) {t e : TypeId} (ht : t ∈ Cl) (hu : P.underlying t = some (.slice e)) {v : Value} {d : DataW H} {p : List MemPlace} (hval : Value.okWide P w .any 0 t v)
    (h : DataW.Trod enc P w 0 (fun _ => true) held t v d p) : ∃ rows, (∀ r, r ∈ rows → PTy P e r) ∧ PRel w (fun _ => False) (.sl none (P.cellsOf e) rows []) v := by
  obtain ⟨a, len, cap, rfl⟩ := okWide_slice hu hval
  obtain ⟨fuel, hf⟩ := h
  obtain ⟨ps, h1, _, h3⟩ := trod_pty hB (fun _ => rfl) fuel t _ _ ht hf
  obtain ⟨rows, rfl, hr⟩ := h1.sl_inv hu
  exact ⟨rows, hr, (h3.2 0 _ _ rfl (by simp [Value.cells])).1⟩
/-- an argument that is a struct -/
theorem open_struct {Cl : List TypeId} (hB : plainB P Cl = true) {t : TypeId} {fs : Array Field} (ht : t ∈ Cl) (hu : P.underlying t = some (.struct fs)) {v : Value} {d : DataW H} {p : List MemPlace} (hval : Value.okWide P w .any 0 t v)
    (h : DataW.Trod enc P w 0 (fun _ => true) held t v d p) : ∃ ps, PTy P t ps ∧ PRel w (fun _ => False) (.agg ps) v := by
  obtain ⟨cs, rfl, _⟩ := okWide_struct hu hval
  obtain ⟨fuel, hf⟩ := h
  obtain ⟨ps, h1, _, h3⟩ := trod_pty hB (fun _ => rfl) fuel t _ _ ht hf
  refine ⟨ps, h1, ?_⟩
  have := PRel.agg (w := w) (S := fun _ => False) ps cs.toList (by simpa [Value.cells] using h3.1) (fun i c v hc hv => (h3.2 i c v hc (by simpa [Value.cells] using hv)).1)
  simpa using this

theorem Fr.below {w w' : World} (h : Fr (fun _ => False) w w') : Below w.heap.size w w' :=
  ⟨h.os, h.tape, h.output, h.size, fun b hb => h.block b hb (fun h => h)⟩
end

/-- rows, each of which is one of a kind -/
theorem rows_of {α : Type} {enc : α → List PV} : ∀ (rows : List (List PV)), (∀ r, r ∈ rows → ∃ x, r = enc x) → ∃ l : List α, rows = l.map enc
  | [], _ => ⟨[], rfl⟩
  | r :: rs, h => by
    obtain ⟨x, hx⟩ := h r (by simp)
    obtain ⟨l, hl⟩ := rows_of rs (fun q hq => h q (by simp [hq]))
    exact ⟨x :: l, by simp [hx, hl]⟩

/-- the cells of a laid table's datum -/
def cellsLit : DataW Unit → List Value
  | .lit (.int k n) => [.int k n]
  | _ => []
def cellsAgg : DataW Unit → List Value
  | .agg l => l.flatMap cellsLit
  | d => cellsLit d
def cellsAgg2 : DataW Unit → List Value
  | .agg l => l.flatMap cellsAgg
  | d => cellsAgg d
end Go.Dl
