/- internal/stringslite.Clone and strings.Clone give the same text. Contracts of strings.Clone, value.Cat, value.Of, value.Text. -/
import Derived.Test.YtjmhdfcmghmgjaaDoorA11
import Derived.Test.YtjmhdfcmghmgjaaDoorChecked
import Derived.Lib.Strings
import Derived.Lib.Walk
import Derived.Lib.BufferWrite
import Derived.Lib.UnsafeStr
import Derived.Lib.Hide
import Derived.Laws.MakeOwn
import Derived.WalkKit
import Derived.Test.YtjmhdfcmghmgjaaDoorA14
set_option linter.unusedVariables false
set_option linter.unusedSimpArgs false
namespace Go.Dl
open Go.Proofs Go.RowKit

theorem info5 : (Tryd.prog.info? 5).map (fun i => (i.zero, i.size, i.bytes)) = some (some (Value.int IntKind.u8 0), 1, 1) := by kernel_rfl

set_option maxHeartbeats 4000000 in
set_option maxRecDepth 100000 in
theorem clone_calls (s : ByteArray) (w : World) (hlim : s.size ≤ 281474976710656) :
    Calls Tryd.prog 84 #[.string s] w fun e w' => e = .returned (.string s) ∧ Below w.heap.size w w' := by
  by_cases h0 : s.size = 0
  · have hs : s = ⟨#[]⟩ := by
      apply ByteArray.ext
      exact Array.eq_empty_of_size_eq_zero h0
    subst hs
    go_enter Tryd.func84, Tryd.ntmps84
    go_wp2
    go_ret
    exact ⟨rfl, Below.refl _ _⟩
  · obtain ⟨i0, hi, hz0, hz1, hz2⟩ := info_parts info5
    have hinfo : (Tryd.prog.info? 5).map (·.size) = some 1 := by rw [hi]; simp [hz1]
    have hco : Tryd.prog.cellsOf 5 = 1 := by simp [Program.cellsOf, hi, hz1]
    obtain ⟨M, hM⟩ : ∃ M, M = madeCells (Value.int .u8 0).cells (((s.size : Nat) : Int).toNat * i0.size) := ⟨_, rfl⟩
    have hMs : M.size = s.size := by rw [hM, size_madeCells, hz1]; simp
    have hmk : ∀ W : World, (Instr.makeSlice 117 (.int .i64 (s.size : Int)) (.int .i64 (s.size : Int))).run Tryd.prog W = .ok (.slice (some ⟨W.heap.size, 0, none⟩) s.size s.size) (W.alloc (.cells M 5)) := fun W => by
      have h := run_make (P := Tryd.prog) W 117 5 i0 (.int .u8 0) Tryd.underlying117 hi hz0 .i64 .i64 (s.size : Int) (s.size : Int) (by omega) (by omega) (by rw [hz2]; omega) (by omega)
      rw [← hM] at h
      simpa using h
    clear hM
    have hcp := Lib.run_copy_row_string (P := Tryd.prog) (w.alloc (.cells M 5)) 117 9 3 5 w.heap.size 0 s.size s.size s M 5 Tryd.underlying117 hinfo (heap_alloc_new w _) (Nat.le_refl _) (by omega)
    obtain ⟨Y, hY⟩ : ∃ Y, Y = (M.toList.take 0 ++ Lib.byteCells s.data.toList ++ M.toList.drop (0 + s.size)).toArray := ⟨_, rfl⟩
    rw [← hY] at hcp
    have hYl : Y.toList = Lib.byteCells s.data.toList := by
      rw [hY, List.toList_toArray, List.take_zero, List.nil_append, List.drop_of_length_le (by rw [Array.length_toList]; omega), List.append_nil]
    have hYs : Y.size = s.size := by rw [← Array.length_toList, hYl, Lib.byteCells_length, ← Lib.size_eq]
    have hgY : ((w.alloc (.cells M 5)).setRow w.heap.size Y).heap[w.heap.size]? = some (.cells Y 5 (0, 0)) := setRow_heap _ _ M _ 5 (0, 0) (heap_alloc_new w _)
    have hne : s.data.toList ≠ [] := fun e => h0 (by rw [Lib.size_eq, e]; rfl)
    have hUS := Lib.run_unsafeString_row (P := Tryd.prog) ((w.alloc (.cells M 5)).setRow w.heap.size Y) 146 3 9 5 Tryd.underlying146 hco w.heap.size Y.size (by unfold World.shape?; rw [hgY]) s.data.toList hne (by rw [← Lib.size_eq]; omega) (by rw [← Lib.size_eq]; omega)
      (fun j x hx => Lib.cells_of_row hgY Y.size j _ (by rw [List.take_of_length_le (by rw [Array.length_toList]; exact Nat.le_refl _), hYl]; simp [Lib.byteCells, hx]))
    rw [← Lib.size_eq] at hUS
    clear hY
    go_enter Tryd.func84, Tryd.ntmps84
    go_wp2
    go_ret
    have hb1 : Below w.heap.size w (w.alloc (.cells M 5)) := (Below.refl _ w).alloc (Nat.le_refl _) _
    have hb2 : Below w.heap.size (w.alloc (.cells M 5)) ((w.alloc (.cells M 5)).setRow w.heap.size Y) := ⟨rfl, rfl, rfl, by simp, fun k hk => setRow_other _ _ _ _ (by omega)⟩
    exact ⟨rfl, Lib.below_freeze (hb1.trans hb2) (p := ⟨w.heap.size, 0, none⟩) (Nat.le_refl _) _⟩

theorem Fr.of_below {w w' : World} (h : Below w.heap.size w w') : Fr (fun _ => False) w w' :=
  ⟨h.os, h.tape, h.output, h.size, fun b hb _ => h.block b hb, fun b cur e fr hc => ⟨cur, fr, by rw [h.block b (Array.getElem?_eq_some_iff.1 hc).1]; exact hc, rfl⟩⟩

theorem t_sclone (s : List UInt8) (hs : s.length ≤ 281474976710656) : PCall Tryd.prog 84 [.str s] (· = .str s) := by
  intro w S vs _ hlen hrel
  match vs, hlen with
  | [v], _ =>
    have h := hrel 0 _ _ rfl rfl
    cases h
    refine (clone_calls ⟨s.toArray⟩ w (by simpa [ByteArray.size] using hs)).mono ?_
    rintro e w' ⟨rfl, hb⟩
    exact ⟨_, _, rfl, rfl, Fr.of_below hb, .str s⟩
end Go.Dl
set_option linter.unusedVariables false
set_option linter.unusedSimpArgs false
set_option maxRecDepth 1000000
namespace Go.Dl
open Go.Proofs

theorem t_clone (s : List UInt8) (hs : s.length ≤ 281474976710656) : PCall Tryd.prog 52 [.str s] (· = .str s) := by
  refine pcall_vcz c_sclone (by simp [c_sclone]) fun x K hK => ?_
  simp [c_sclone]
  refine oks_callz [] .wide [.str s] (t_sclone s hs) (by simp) (by simp; rfl) (by simp) ?_
  rintro _ rfl
  refine oks_vc .wide ?_
  simp
  exact hK _ _ rfl (by simp)
theorem t_vcat (s : List UInt8) (hs : s.length ≤ 281474976710656) : PCall Tryd.prog 25 [.str s] (· = .agg (encV ⟨2, [], s⟩)) := by
  refine pcall_vcz c_vcat (by simp [c_vcat]) fun x K hK => ?_
  simp [c_vcat]
  refine oks_callz [] .wide [.str s] (t_clone s hs) (by simp) (by simp; rfl) (by simp) ?_
  rintro _ rfl
  refine oks_vc .wide ?_
  simp
  exact hK _ _ rfl (by simp [encV])
theorem t_vof (neg : Bool) (n d : Nat) (hn : (limbs n).length ≤ 30000) (hd : (limbs d).length ≤ 30000) : PCall Tryd.prog 13 [encRat neg n d] (· = .agg (encV ⟨1, ratT neg n d, []⟩)) := by
  refine pcall_vcz c_vof (by simp [c_vof]) fun x K hK => ?_
  simp [c_vof, encRat]
  refine oks_callz [] .wide [encRat neg n d] (t_rtext neg n d hn hd) (by simp) (by simp; rfl) (by simp [encRat]) ?_
  rintro _ rfl
  refine oks_vc .wide ?_
  simp
  exact hK _ _ rfl (by simp [encV])
def textP (v : Val) : List UInt8 := if validP v then (if v.kind = 0 then [63] else if v.kind = 2 then 58 :: v.cat else v.num) else [33]
theorem t_vtext (v : Val) (hs : v.num.length ≤ 100000) : PCall Tryd.prog 16 [.agg (encV v)] (· = .str (textP v)) := by
  refine pcall_vcz c_vtext (by simp [c_vtext]) fun x K hK => ?_
  simp [c_vtext, encV]
  refine oks_callz [] .wide [.agg (encV v)] (t_valid v hs) (by simp) (by simp; rfl) (by simp [encV]) ?_
  rintro _ rfl
  refine oks_vc .wide ?_
  by_cases hv : validP v = true
  · by_cases h0 : v.kind = 0
    · simp [hv, h0]
      exact hK _ _ rfl (by simp [textP, hv, h0])
    · by_cases h2 : v.kind = 2
      · have hc : v.cat.length ≤ 60 := by
          simp [validP, h2] at hv
          exact hv.2
        simp [hv, h0, h2, show 1 + v.cat.length ≤ 9223372036854775807 by omega, show v.cat.length + 1 ≤ 9223372036854775807 by omega]
        exact hK _ _ rfl (by simp [textP, hv, h0, h2])
      · simp [hv, h0, h2]
        exact hK _ _ rfl (by simp [textP, hv, h0, h2])
  · simp [hv]
    exact hK _ _ rfl (by simp [textP, hv])
end Go.Dl
