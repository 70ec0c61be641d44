/- The program: its draws; the compiled functions of hornbeam/nat. -/
import Derived.Test.YtjmhdfcmghmgjaaDoorDlQ
import Derived.Test.YtjmhdfcmghmgjaaDoorProg
import Derived.KernelRfl
set_option linter.unusedVariables false
set_option maxRecDepth 1000000
namespace Go.Dl
open Go.Proofs

theorem good_fok : Tryd.prog.funcs.all fOk = true := by kernel_rfl
theorem good_mixed : Tryd.prog.follows .mixedOrders = true := by kernel_rfl
instance good : DGood Tryd.prog := ⟨good_fok, good_mixed⟩
noncomputable def c_trim : { d : DFn // compF Tryd.prog 66 = some d } := by
  refine ⟨?_, ?_⟩
  rotate_left
  · conv => lhs; reduce
noncomputable def c_zero : { d : DFn // compF Tryd.prog 67 = some d } := by
  refine ⟨?_, ?_⟩
  rotate_left
  · conv => lhs; reduce
noncomputable def c_of : { d : DFn // compF Tryd.prog 72 = some d } := by
  refine ⟨?_, ?_⟩
  rotate_left
  · conv => lhs; reduce
noncomputable def c_at : { d : DFn // compF Tryd.prog 101 = some d } := by
  refine ⟨?_, ?_⟩
  rotate_left
  · conv => lhs; reduce
noncomputable def c_less : { d : DFn // compF Tryd.prog 78 = some d } := by
  refine ⟨?_, ?_⟩
  rotate_left
  · conv => lhs; reduce
noncomputable def c_more : { d : DFn // compF Tryd.prog 65 = some d } := by
  refine ⟨?_, ?_⟩
  rotate_left
  · conv => lhs; reduce
noncomputable def c_clone32 : { d : DFn // compF Tryd.prog 77 = some d } := by
  refine ⟨?_, ?_⟩
  rotate_left
  · conv => lhs; reduce
noncomputable def c_number : { d : DFn // compF Tryd.prog 64 = some d } := by
  refine ⟨?_, ?_⟩
  rotate_left
  · conv => lhs; reduce
noncomputable def c_cmp : { d : DFn // compF Tryd.prog 80 = some d } := by
  refine ⟨?_, ?_⟩
  rotate_left
  · conv => lhs; reduce
noncomputable def c_mul : { d : DFn // compF Tryd.prog 74 = some d } := by
  refine ⟨?_, ?_⟩
  rotate_left
  · conv => lhs; reduce
noncomputable def c_natparse : { d : DFn // compF Tryd.prog 42 = some d } := by
  refine ⟨?_, ?_⟩
  rotate_left
  · conv => lhs; reduce
noncomputable def c_nattext : { d : DFn // compF Tryd.prog 47 = some d } := by
  refine ⟨?_, ?_⟩
  rotate_left
  · conv => lhs; reduce
noncomputable def c_divmod : { d : DFn // compF Tryd.prog 91 = some d } := by
  refine ⟨?_, ?_⟩
  rotate_left
  · conv => lhs; reduce
noncomputable def c_gcd : { d : DFn // compF Tryd.prog 90 = some d } := by
  refine ⟨?_, ?_⟩
  rotate_left
  · conv => lhs; reduce
noncomputable def c_long : { d : DFn // compF Tryd.prog 106 = some d } := by
  refine ⟨?_, ?_⟩
  rotate_left
  · conv => lhs; reduce
noncomputable def c_shift : { d : DFn // compF Tryd.prog 117 = some d } := by
  refine ⟨?_, ?_⟩
  rotate_left
  · conv => lhs; reduce
noncomputable def c_down : { d : DFn // compF Tryd.prog 124 = some d } := by
  refine ⟨?_, ?_⟩
  rotate_left
  · conv => lhs; reduce
noncomputable def c_guess : { d : DFn // compF Tryd.prog 125 = some d } := by
  refine ⟨?_, ?_⟩
  rotate_left
  · conv => lhs; reduce
noncomputable def c_step : { d : DFn // compF Tryd.prog 118 = some d } := by
  refine ⟨?_, ?_⟩
  rotate_left
  · conv => lhs; reduce
noncomputable def c_reverse : { d : DFn // compF Tryd.prog 79 = some d } := by
  refine ⟨?_, ?_⟩
  rotate_left
  · conv => lhs; reduce
end Go.Dl
