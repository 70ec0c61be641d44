/- Values, fields, and lists of them, as a row reads them. -/
import Derived.Test.YtjmhdfcmghmgjaaDoorA19
import Derived.Test.YtjmhdfcmghmgjaaDoorA17
set_option linter.unusedVariables false
set_option linter.unusedSimpArgs false
set_option maxRecDepth 1000000
namespace Go.Dl
open Go.Proofs
open Go.ChangeShapes Go.WideShapes Go.ChangeAt Go.RowKit

def clT : List TypeId := [3, 9, 23, 24, 64, 59, 62]
theorem clT_plain : plainB Tryd.prog clT = true := by kernel_rfl
theorem cellsVal : Tryd.prog.cellsOf 23 = 3 := by kernel_rfl
theorem cellsFld : Tryd.prog.cellsOf 64 = 7 := by kernel_rfl
theorem cellsStr : Tryd.prog.cellsOf 9 = 1 := by kernel_rfl
theorem pty_val {ps : List PV} (h : PTy Tryd.prog 23 ps) : ∃ v : Val, ps = encV v := by
  obtain ⟨pss, hl, rfl, hp⟩ := h.struct_inv Tryd.underlying23
  match pss, hl with
  | [a, b, c], _ =>
    obtain ⟨k, rfl⟩ := (hp 0 _ a rfl rfl).int_inv Tryd.underlying3
    obtain ⟨n, rfl⟩ := (hp 1 _ b rfl rfl).str_inv Tryd.underlying9
    obtain ⟨s, rfl⟩ := (hp 2 _ c rfl rfl).str_inv Tryd.underlying9
    exact ⟨⟨k, n, s⟩, rfl⟩
theorem pty_strs {ps : List PV} (h : PTy Tryd.prog 62 ps) : ∃ l : List (List UInt8), ps = [.sl none 1 (encS l) []] := by
  obtain ⟨rows, rfl, hr⟩ := h.sl_inv Tryd.underlying62
  obtain ⟨l, rfl⟩ := rows_of (enc := fun s => [PV.str s]) rows (fun r hr' => (hr r hr').str_inv Tryd.underlying9)
  exact ⟨l, by rw [cellsStr]; rfl⟩
theorem pty_fld {ps : List PV} (h : PTy Tryd.prog 64 ps) : ∃ f : Fld, ps = encF f := by
  obtain ⟨pss, hl, rfl, hp⟩ := h.struct_inv Tryd.underlying64
  match pss, hl with
  | [a, b, c, d, e], _ =>
    obtain ⟨n, rfl⟩ := (hp 0 _ a rfl rfl).str_inv Tryd.underlying9
    obtain ⟨k, rfl⟩ := (hp 1 _ b rfl rfl).int_inv Tryd.underlying3
    obtain ⟨l, rfl⟩ := pty_strs (hp 2 _ c rfl rfl)
    obtain ⟨v, rfl⟩ := pty_val (hp 3 _ d rfl rfl)
    obtain ⟨i, rfl⟩ := (hp 4 _ e rfl rfl).int_inv Tryd.underlying3
    exact ⟨⟨n, k, l, v, i⟩, rfl⟩
section
variable {H : Type} {enc : TypeId × Value → H} {w : World} {held : Bool} {v : Value} {d : DataW H} {p : List MemPlace}
theorem arg_val (hval : Value.okWide Tryd.prog w .any 0 23 v) (h : DataW.Trod enc Tryd.prog w 0 (fun _ => true) held 23 v d p) : ∃ x : Val, PRel w (fun _ => False) (.agg (encV x)) v := by
  obtain ⟨ps, h1, h2⟩ := open_struct clT_plain (by decide) Tryd.underlying23 hval h
  obtain ⟨x, rfl⟩ := pty_val h1
  exact ⟨x, h2⟩
theorem arg_vals (hval : Value.okWide Tryd.prog w .any 0 24 v) (h : DataW.Trod enc Tryd.prog w 0 (fun _ => true) held 24 v d p) : ∃ l : List Val, PRel w (fun _ => False) (.sl none 3 (encVs l) []) v := by
  obtain ⟨rows, h1, h2⟩ := open_sl clT_plain (by decide) Tryd.underlying24 hval h
  obtain ⟨l, rfl⟩ := rows_of rows (fun r hr => pty_val (h1 r hr))
  rw [cellsVal] at h2
  exact ⟨l, h2⟩
theorem arg_flds (hval : Value.okWide Tryd.prog w .any 0 59 v) (h : DataW.Trod enc Tryd.prog w 0 (fun _ => true) held 59 v d p) : ∃ l : List Fld, PRel w (fun _ => False) (.sl none 7 (encFs l) []) v := by
  obtain ⟨rows, h1, h2⟩ := open_sl clT_plain (by decide) Tryd.underlying59 hval h
  obtain ⟨l, rfl⟩ := rows_of rows (fun r hr => pty_fld (h1 r hr))
  rw [cellsFld] at h2
  exact ⟨l, h2⟩
end
end Go.Dl
