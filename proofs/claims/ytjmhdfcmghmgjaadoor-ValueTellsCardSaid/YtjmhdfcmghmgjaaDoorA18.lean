/- Arguments of the laws as pure values: a value, a list of values. -/
import Derived.Test.YtjmhdfcmghmgjaaDoorA11
import Derived.WalkKit
import Derived.ProofKit
import Derived.OpenShut
import Derived.Deep.Strs
import Derived.Carry
set_option linter.unusedVariables false
set_option linter.unusedSimpArgs false
set_option maxRecDepth 1000000
namespace Go.Dl
open Go.Proofs
open Go.ChangeShapes Go.WideShapes Go.ChangeAt Go.RowKit

theorem Fr.below {w w' : World} (h : Fr (fun _ => False) w w') : Below w.heap.size w w' :=
  ⟨h.os, h.tape, h.output, h.size, fun b hb => h.block b hb (fun h => h)⟩

section
variable {H : Type} {enc : TypeId × Value → H} {w : World} {base : Nat} {spare : Nat → Bool} {held : Bool}

def valCells (v : Val) : List Value := [.int .i64 v.kind, .string ⟨v.num.toArray⟩, .string ⟨v.cat.toArray⟩]

theorem cells23 : Tryd.prog.cellsOf 23 = 3 := by kernel_rfl
theorem cells3t : Tryd.prog.cellsOf 3 = 1 := by kernel_rfl
theorem cells9t : Tryd.prog.cellsOf 9 = 1 := by kernel_rfl

theorem trod_value {fuel : Nat} {cs : List Value} {x : DataW H × List MemPlace} (h : DataW.trod enc Tryd.prog w base spare held fuel 23 cs = some x) : ∃ v : Val, cs = valCells v := by
  obtain ⟨y0, y1, y2, n, _, hl, h0, h1, h2⟩ := Deep.trod_struct3 Tryd.underlying23 h
  rw [cells23] at hl
  match cs, hl with
  | [a, b, c], _ =>
    simp only [cells3t, cells9t] at h0 h1 h2
    obtain ⟨k, e0, _, _⟩ := DataW.trod_int Tryd.underlying3 h0
    obtain ⟨s, e1, _, _⟩ := DataW.trod_string Tryd.underlying9 h1
    obtain ⟨t, e2, _, _⟩ := DataW.trod_string Tryd.underlying9 h2
    simp at e0 e1 e2
    subst e0 e1 e2
    exact ⟨⟨k, s.data.toList, t.data.toList⟩, by simp [valCells]⟩

theorem prel_valCells {S : Nat → Prop} (v : Val) (i : Nat) (c : PV) (u : Value) (hc : (encV v)[i]? = some c) (hu : (valCells v)[i]? = some u) : PRel w S c u := by
  match i with
  | 0 => simp [encV, valCells] at hc hu; subst hc hu; exact .int _ _
  | 1 => simp [encV, valCells] at hc hu; subst hc hu; exact .str _
  | 2 => simp [encV, valCells] at hc hu; subst hc hu; exact .str _
  | n + 3 => simp [encV] at hc
theorem prel_value {S : Nat → Prop} (v : Val) : PRel w S (.agg (encV v)) (.agg (valCells v).toArray) :=
  .agg _ _ rfl fun i c u hc hu => prel_valCells v i c u hc hu

theorem open_value {v : Value} {d : DataW H} {p : List MemPlace} (hval : Value.okWide Tryd.prog w .any base 23 v) (h : DataW.Trod enc Tryd.prog w base spare held 23 v d p) : ∃ x : Val, v = .agg (valCells x).toArray := by
  obtain ⟨cs, rfl, _⟩ := okWide_struct Tryd.underlying23 hval
  obtain ⟨fuel, hf⟩ := h
  obtain ⟨x, hx⟩ := trod_value hf
  exact ⟨x, by simp [Value.cells] at hx; simp [← hx]⟩

theorem open_values {v : Value} {d : DataW H} {p : List MemPlace} (hval : Value.okWide Tryd.prog w .any 0 24 v) (h : DataW.Trod enc Tryd.prog w base spare held 24 v d p) :
    ∃ row : List Val, PRel w (fun _ => False) (.sl none 3 (encVs row) []) v := by
  obtain ⟨a, len, cap, rfl⟩ := okWide_slice Tryd.underlying24 hval
  obtain ⟨fuel, hf⟩ := h
  rcases DataW.trod_slice Tryd.underlying24 hf with ⟨e, _⟩ | ⟨a', len', cap', elems, rest, n, _, e, _, hb, hl, hm, hlen, hel, _, _⟩
  · simp [Value.cells] at e
    obtain ⟨rfl, rfl, rfl⟩ := e
    exact ⟨[], .slnil _ _ (by simp)⟩
  · simp [Value.cells] at e
    obtain ⟨rfl, rfl, rfl⟩ := e
    have hhas : a'.spot = none ∧ a'.block < w.heap.size := by
      simp only [Value.okWide, Tryd.underlying24, Cell.okWide, Cell.ok] at hval
      obtain ⟨_, _, _, hs, row, cells, hsh, _⟩ := hval
      refine ⟨hs, ?_⟩
      unfold World.shape? at hsh
      cases hh : w.heap[a'.block]? with
      | none => simp [hh] at hsh
      | some o => exact (Array.getElem?_eq_some_iff.1 hh).1
    obtain ⟨b, off, spot⟩ := a'
    obtain ⟨hs, hbl⟩ := hhas
    simp only at hs hbl
    subst hs
    have each : ∀ i, ∃ x : Val, i < len → ∀ j, j < 3 → w.cell? ⟨b, off + i * 3 + j, none⟩ = (valCells x)[j]? := by
      intro i
      by_cases hi : i < len
      · have h1 := hel i hi
        rw [List.getElem?_eq_getElem (by omega), Option.bind_eq_some_iff] at h1
        obtain ⟨cs, hcs, hx⟩ := h1
        obtain ⟨x, rfl⟩ := trod_value hx
        refine ⟨x, fun _ j hj => ?_⟩
        rw [cells23] at hcs
        have := (World.cells?_some hcs).2.2 j hj
        rwa [add_plain, add_plain] at this
      · exact ⟨⟨0, [], []⟩, fun h => absurd h hi⟩
    obtain ⟨f, hf'⟩ : ∃ f : Nat → Val, ∀ i, i < len → ∀ j, j < 3 → w.cell? ⟨b, off + i * 3 + j, none⟩ = (valCells (f i))[j]? := ⟨fun i => (each i).choose, fun i => (each i).choose_spec⟩
    refine ⟨(List.range len).map f, ?_⟩
    have key : ∀ (i j : Nat) (c : PV), rowAt (encVs ((List.range len).map f) ++ []) i j = some c → i < len ∧ (encV (f i))[j]? = some c := by
      intro i j c hc
      simp only [List.append_nil, rowAt, encVs, List.map_map, List.getElem?_map, Option.bind_eq_some_iff, Option.map_eq_some_iff] at hc
      obtain ⟨r, ⟨k, hk, rfl⟩, hj⟩ := hc
      obtain ⟨hlt, e⟩ := List.getElem?_eq_some_iff.1 hk
      simp at hlt e
      subst e
      exact ⟨hlt, hj⟩
    have := PRel.sl (w := w) (S := fun _ => False) none (by simp) 3 (encVs ((List.range len).map f)) [] b off cap (fun i j => (valCells (f i)).getD j default) (fun h => h) hbl (by simp [encVs, encV]) (by simpa using hl) hm
      (fun i j c hc => by
        obtain ⟨hi, hj⟩ := key i j c hc
        have hj3 : j < 3 := by
          have := (List.getElem?_eq_some_iff.1 hj).1
          simpa [encV] using this
        have h2 := hf' i hi j hj3
        obtain rfl | rfl | rfl : j = 0 ∨ j = 1 ∨ j = 2 := by omega
        all_goals
          rw [h2]
          exact ⟨by simp [valCells], by simp [valCells]; rfl⟩)
      (fun i j c hc => by
        obtain ⟨hi, hj⟩ := key i j c hc
        have hj3 : j < 3 := by
          have := (List.getElem?_eq_some_iff.1 hj).1
          simpa [encV] using this
        refine prel_valCells (f i) j c _ hj ?_
        obtain rfl | rfl | rfl : j = 0 ∨ j = 1 ∨ j = 2 := by omega
        all_goals simp [valCells])
    simpa using this
end

/-- the cells of a laid table's datum -/
def cellsLit : DataW Unit → List Value
  | .lit (.int k n) => [.int k n]
  | _ => []
def cellsAgg : DataW Unit → List Value
  | .agg l => l.flatMap cellsLit
  | d => cellsLit d
def cellsAgg2 : DataW Unit → List Value
  | .agg l => l.flatMap cellsAgg
  | d => cellsAgg d
end Go.Dl
