/- The compiled forms of functions of value, dec, nat, and of the law. Contracts of hornbeam/dec: sign, digits, small; strings.TrimPrefix at one byte. Contracts of nat.Bits, bits.Len at small numbers, nat.Pow at 10 and small exponents, dec.power. Contracts of nat.Pow at 10 and small exponents, dec.power. Contract of dec.cut: a literal's parts. -/
import Derived.Test.YtjmhdfcmghmgjaaDoorA11
import Derived.KernelRfl
import Derived.Lib.Small
import Derived.Lib.BitFns
import Derived.Lib.ItoaNum
set_option linter.unusedVariables false
set_option maxRecDepth 1000000
namespace Go.Dl
open Go.Proofs

noncomputable def c_dsign : { d : DFn // compF Tryd.prog 92 = some d } := ⟨{ nt := 15, res := [DRes.t 2, DRes.t 3], code := (DCode.reg [{ dst := some 2, op := DOp.mv (DOpd.c (PV.str [])), g := none }, { dst := some 3, op := DOp.mv (DOpd.c (PV.bool false)), g := none }]).seq (((DCode.reg [{ dst := some 7, op := DOp.mv (DOpd.t 0), g := none }, { dst := some 8, op := DOp.call 40 [DOpd.t 7, DOpd.c (PV.str [45])], g := none }, { dst := some 6, op := DOp.mv (DOpd.t 8), g := none }, { dst := some 9, op := DOp.ext (DOpd.t 6) 0, g := none }, { dst := some 10, op := DOp.ext (DOpd.t 6) 1, g := none }, { dst := some 4, op := DOp.mv (DOpd.t 9), g := none }, { dst := some 5, op := DOp.mv (DOpd.t 10), g := none }]).seq ((DCode.reg [{ dst := some 11, op := DOp.mv (DOpd.t 5), g := none }]).seq (DCode.cond (DOpd.t 11) ((DCode.reg [{ dst := some 12, op := DOp.mv (DOpd.t 4), g := none }, { dst := some 2, op := DOp.mv (DOpd.t 12), g := none }, { dst := some 3, op := DOp.mv (DOpd.c (PV.bool true)), g := none }]).seq DCode.ret) DCode.skip))).seq ((DCode.reg [{ dst := some 13, op := DOp.mv (DOpd.t 0), g := none }, { dst := some 14, op := DOp.call 107 [DOpd.t 13, DOpd.c (PV.str [43])], g := none }, { dst := some 2, op := DOp.mv (DOpd.t 14), g := none }, { dst := some 3, op := DOp.mv (DOpd.c (PV.bool false)), g := none }]).seq DCode.ret)) }, by kernel_rfl⟩
noncomputable def c_digits : { d : DFn // compF Tryd.prog 93 = some d } := ⟨{ nt := 20, res := [DRes.t 2], code := (DCode.reg [{ dst := some 2, op := DOp.mv (DOpd.c (PV.bool false)), g := none }]).seq (((DCode.reg [{ dst := some 4, op := DOp.mv (DOpd.t 0), g := none }, { dst := some 5, op := DOp.len true (DOpd.t 4), g := none }, { dst := some 6, op := DOp.mv (DOpd.c (PV.int IntKind.i64 0)), g := none }]).seq (DCode.block 0 ((DCode.reg [{ dst := some 7, op := DOp.bin BinOp.lss (DOpd.t 6) (DOpd.t 5), g := none }]).seq ((DCode.cond (DOpd.t 7) DCode.skip (DCode.exit 0)).seq ((DCode.block 1 ((DCode.reg [{ dst := some 8, op := DOp.mv (DOpd.t 6), g := none }, { dst := some 3, op := DOp.mv (DOpd.t 8), g := none }]).seq ((DCode.reg [{ dst := some 9, op := DOp.mv (DOpd.t 0), g := none }, { dst := some 10, op := DOp.mv (DOpd.t 3), g := none }, { dst := some 11, op := DOp.idx (DOpd.t 9) (DOpd.t 10), g := none }, { dst := some 12, op := DOp.bin BinOp.lss (DOpd.t 11) (DOpd.c (PV.int IntKind.u8 48)), g := none }, { dst := some 13, op := DOp.mv (DOpd.t 12), g := none }, { dst := some 14, op := DOp.mv (DOpd.t 0), g := some (13, false) }, { dst := some 15, op := DOp.mv (DOpd.t 3), g := some (13, false) }, { dst := some 16, op := DOp.idx (DOpd.t 14) (DOpd.t 15), g := some (13, false) }, { dst := some 17, op := DOp.bin BinOp.gtr (DOpd.t 16) (DOpd.c (PV.int IntKind.u8 57)), g := some (13, false) }, { dst := some 18, op := DOp.pick (DOpd.t 13) (DOpd.c (PV.bool true)) (DOpd.t 17), g := none }]).seq (DCode.cond (DOpd.t 18) ((DCode.reg [{ dst := some 2, op := DOp.mv (DOpd.c (PV.bool false)), g := none }]).seq DCode.ret) DCode.skip)))).seq (DCode.reg [{ dst := some 19, op := DOp.bin BinOp.add (DOpd.t 6) (DOpd.c (PV.int IntKind.i64 1)), g := none }, { dst := some 6, op := DOp.mv (DOpd.t 19), g := none }])))).loop)).seq ((DCode.reg [{ dst := some 2, op := DOp.mv (DOpd.c (PV.bool true)), g := none }]).seq DCode.ret)) }, by kernel_rfl⟩
noncomputable def c_small : { d : DFn // compF Tryd.prog 70 = some d } := ⟨{ nt := 28, res := [DRes.t 2, DRes.t 3], code := (DCode.reg [{ dst := some 2, op := DOp.mv (DOpd.c (PV.int IntKind.i64 0)), g := none }, { dst := some 3, op := DOp.mv (DOpd.c (PV.bool false)), g := none }]).seq ((DCode.reg [{ dst := some 6, op := DOp.mv (DOpd.t 0), g := none }, { dst := some 7, op := DOp.call 71 [DOpd.t 6, DOpd.c (PV.str [48])], g := none }, { dst := some 0, op := DOp.mv (DOpd.t 7), g := none }]).seq (((DCode.reg [{ dst := some 8, op := DOp.mv (DOpd.t 0), g := none }, { dst := some 9, op := DOp.len true (DOpd.t 8), g := none }, { dst := some 10, op := DOp.bin BinOp.gtr (DOpd.t 9) (DOpd.c (PV.int IntKind.i64 3)), g := none }]).seq (DCode.cond (DOpd.t 10) ((DCode.reg [{ dst := some 2, op := DOp.mv (DOpd.c (PV.int IntKind.i64 0)), g := none }, { dst := some 3, op := DOp.mv (DOpd.c (PV.bool false)), g := none }]).seq DCode.ret) DCode.skip)).seq ((DCode.reg [{ dst := some 4, op := DOp.mv (DOpd.c (PV.int IntKind.i64 0)), g := none }]).seq (((DCode.reg [{ dst := some 11, op := DOp.mv (DOpd.t 0), g := none }, { dst := some 12, op := DOp.len true (DOpd.t 11), g := none }, { dst := some 13, op := DOp.mv (DOpd.c (PV.int IntKind.i64 0)), g := none }]).seq (DCode.block 0 ((DCode.reg [{ dst := some 14, op := DOp.bin BinOp.lss (DOpd.t 13) (DOpd.t 12), g := none }]).seq ((DCode.cond (DOpd.t 14) DCode.skip (DCode.exit 0)).seq ((DCode.block 1 ((DCode.reg [{ dst := some 15, op := DOp.mv (DOpd.t 13), g := none }, { dst := some 5, op := DOp.mv (DOpd.t 15), g := none }]).seq (DCode.reg [{ dst := some 16, op := DOp.mv (DOpd.t 4), g := none }, { dst := some 17, op := DOp.bin BinOp.mul (DOpd.c (PV.int IntKind.i64 10)) (DOpd.t 16), g := none }, { dst := some 18, op := DOp.mv (DOpd.t 0), g := none }, { dst := some 19, op := DOp.mv (DOpd.t 5), g := none }, { dst := some 20, op := DOp.idx (DOpd.t 18) (DOpd.t 19), g := none }, { dst := some 21, op := DOp.bin BinOp.sub (DOpd.t 20) (DOpd.c (PV.int IntKind.u8 48)), g := none }, { dst := some 22, op := DOp.cvi IntKind.i64 (DOpd.t 21), g := none }, { dst := some 23, op := DOp.bin BinOp.add (DOpd.t 17) (DOpd.t 22), g := none }, { dst := some 4, op := DOp.mv (DOpd.t 23), g := none }]))).seq (DCode.reg [{ dst := some 24, op := DOp.bin BinOp.add (DOpd.t 13) (DOpd.c (PV.int IntKind.i64 1)), g := none }, { dst := some 13, op := DOp.mv (DOpd.t 24), g := none }])))).loop)).seq ((DCode.reg [{ dst := some 25, op := DOp.mv (DOpd.t 4), g := none }, { dst := some 26, op := DOp.mv (DOpd.t 4), g := none }, { dst := some 27, op := DOp.bin BinOp.leq (DOpd.t 26) (DOpd.c (PV.int IntKind.i64 400)), g := none }, { dst := some 2, op := DOp.mv (DOpd.t 25), g := none }, { dst := some 3, op := DOp.mv (DOpd.t 27), g := none }]).seq DCode.ret))))) }, by kernel_rfl⟩
noncomputable def c_power : { d : DFn // compF Tryd.prog 73 = some d } := ⟨{ nt := 12, res := [DRes.c (some 1) 2], code := (DCode.reg [{ dst := some 2, op := DOp.alloc [PV.sl (some true) 0 [] []], g := none }]).seq ((DCode.reg [{ dst := some 6, op := DOp.call 72 [DOpd.c (PV.int IntKind.u64 10)], g := none }, { dst := some 7, op := DOp.mv (DOpd.t 0), g := none }, { dst := some 8, op := DOp.call 98 [DOpd.t 6, DOpd.t 7], g := none }, { dst := some 5, op := DOp.mv (DOpd.t 8), g := none }, { dst := some 9, op := DOp.ext (DOpd.t 5) 0, g := none }, { dst := some 10, op := DOp.ext (DOpd.t 5) 1, g := none }, { dst := some 3, op := DOp.alloc [PV.sl (some true) 0 [] []], g := none }, { dst := none, op := DOp.st 1 (DOpd.t 3) (DOpd.t 9), g := none }, { dst := some 4, op := DOp.mv (DOpd.t 10), g := none }]).seq ((DCode.reg [{ dst := some 11, op := DOp.ld (some 1) (DOpd.t 3), g := none }, { dst := none, op := DOp.st 1 (DOpd.t 2) (DOpd.t 11), g := none }]).seq DCode.ret)) }, by kernel_rfl⟩
noncomputable def c_npow : { d : DFn // compF Tryd.prog 98 = some d } := ⟨{ nt := 54, res := [DRes.c (some 1) 4, DRes.t 5], code := (DCode.reg [{ dst := some 2, op := DOp.box 1 (DOpd.t 0), g := none }, { dst := some 4, op := DOp.alloc [PV.sl (some true) 0 [] []], g := none }, { dst := some 5, op := DOp.mv (DOpd.c (PV.int IntKind.i64 0)), g := none }]).seq ((DCode.block 0 ((DCode.reg [{ dst := some 9, op := DOp.mv (DOpd.t 1), g := none }, { dst := some 10, op := DOp.bin BinOp.lss (DOpd.t 9) (DOpd.c (PV.int IntKind.i64 0)), g := none }, { dst := some 8, op := DOp.mv (DOpd.t 10), g := none }]).seq (DCode.cond (DOpd.t 8) ((DCode.reg [{ dst := some 11, op := DOp.build [PV.sl (some true) 0 [] []] [], g := none }, { dst := none, op := DOp.st 1 (DOpd.t 4) (DOpd.t 11), g := none }, { dst := some 5, op := DOp.mv (DOpd.c (PV.int IntKind.i64 1)), g := none }]).seq DCode.ret) ((DCode.reg [{ dst := some 13, op := DOp.mv (DOpd.t 1), g := none }, { dst := some 14, op := DOp.bin BinOp.gtr (DOpd.t 13) (DOpd.c (PV.int IntKind.i64 5000)), g := none }, { dst := some 15, op := DOp.mv (DOpd.t 14), g := none }, { dst := some 16, op := DOp.ld (some 1) (DOpd.t 2), g := some (15, false) }, { dst := some 17, op := DOp.call 111 [DOpd.t 16], g := some (15, false) }, { dst := some 18, op := DOp.bin BinOp.gtr (DOpd.t 17) (DOpd.c (PV.int IntKind.i64 1)), g := some (15, false) }, { dst := some 19, op := DOp.mv (DOpd.t 18), g := some (15, false) }, { dst := some 20, op := DOp.ld (some 1) (DOpd.t 2), g := some (19, true) }, { dst := some 21, op := DOp.call 111 [DOpd.t 20], g := some (19, true) }, { dst := some 22, op := DOp.bin BinOp.sub (DOpd.t 21) (DOpd.c (PV.int IntKind.i64 1)), g := some (19, true) }, { dst := some 23, op := DOp.mv (DOpd.t 1), g := some (19, true) }, { dst := some 24, op := DOp.bin BinOp.mul (DOpd.t 22) (DOpd.t 23), g := some (19, true) }, { dst := some 25, op := DOp.bin BinOp.geq (DOpd.t 24) (DOpd.c (PV.int IntKind.i64 10000)), g := some (19, true) }, { dst := some 26, op := DOp.pick (DOpd.t 19) (DOpd.t 25) (DOpd.c (PV.bool false)), g := some (15, false) }, { dst := some 27, op := DOp.pick (DOpd.t 15) (DOpd.c (PV.bool true)) (DOpd.t 26), g := none }, { dst := some 12, op := DOp.mv (DOpd.t 27), g := none }]).seq (DCode.cond (DOpd.t 12) ((DCode.reg [{ dst := some 28, op := DOp.build [PV.sl (some true) 0 [] []] [], g := none }, { dst := none, op := DOp.st 1 (DOpd.t 4) (DOpd.t 28), g := none }, { dst := some 5, op := DOp.mv (DOpd.c (PV.int IntKind.i64 2)), g := none }]).seq DCode.ret) DCode.skip))))).seq ((DCode.reg [{ dst := some 29, op := DOp.call 72 [DOpd.c (PV.int IntKind.u64 1)], g := none }, { dst := some 6, op := DOp.alloc [PV.sl (some true) 0 [] []], g := none }, { dst := none, op := DOp.st 1 (DOpd.t 6) (DOpd.t 29), g := none }]).seq (((DCode.reg [{ dst := some 30, op := DOp.mv (DOpd.t 1), g := none }, { dst := some 31, op := DOp.cvi IntKind.u64 (DOpd.t 30), g := none }, { dst := some 32, op := DOp.call 112 [DOpd.t 31], g := none }, { dst := some 33, op := DOp.bin BinOp.sub (DOpd.t 32) (DOpd.c (PV.int IntKind.i64 1)), g := none }, { dst := some 7, op := DOp.mv (DOpd.t 33), g := none }]).seq (DCode.block 1 (((DCode.reg [{ dst := some 34, op := DOp.mv (DOpd.t 7), g := none }, { dst := some 35, op := DOp.bin BinOp.geq (DOpd.t 34) (DOpd.c (PV.int IntKind.i64 0)), g := none }]).seq (DCode.cond (DOpd.t 35) DCode.skip (DCode.exit 1))).seq ((DCode.block 2 ((DCode.reg [{ dst := some 38, op := DOp.ld (some 1) (DOpd.t 6), g := none }, { dst := some 39, op := DOp.ld (some 1) (DOpd.t 6), g := none }, { dst := some 40, op := DOp.call 74 [DOpd.t 38, DOpd.t 39], g := none }, { dst := none, op := DOp.st 1 (DOpd.t 6) (DOpd.t 40), g := none }]).seq ((DCode.reg [{ dst := some 41, op := DOp.mv (DOpd.t 1), g := none }, { dst := some 42, op := DOp.mv (DOpd.t 7), g := none }, { dst := some 43, op := DOp.bin BinOp.shr (DOpd.t 41) (DOpd.t 42), g := none }, { dst := some 44, op := DOp.bin BinOp.and (DOpd.t 43) (DOpd.c (PV.int IntKind.i64 1)), g := none }, { dst := some 45, op := DOp.bin BinOp.eql (DOpd.t 44) (DOpd.c (PV.int IntKind.i64 1)), g := none }]).seq (DCode.cond (DOpd.t 45) (DCode.reg [{ dst := some 46, op := DOp.ld (some 1) (DOpd.t 6), g := none }, { dst := some 47, op := DOp.ld (some 1) (DOpd.t 2), g := none }, { dst := some 48, op := DOp.call 74 [DOpd.t 46, DOpd.t 47], g := none }, { dst := none, op := DOp.st 1 (DOpd.t 6) (DOpd.t 48), g := none }]) DCode.skip)))).seq (DCode.reg [{ dst := some 36, op := DOp.mv (DOpd.t 7), g := none }, { dst := some 37, op := DOp.bin BinOp.sub (DOpd.t 36) (DOpd.c (PV.int IntKind.i64 1)), g := none }, { dst := some 7, op := DOp.mv (DOpd.t 37), g := none }]))).loop)).seq (((DCode.reg [{ dst := some 49, op := DOp.ld (some 1) (DOpd.t 6), g := none }, { dst := some 50, op := DOp.call 111 [DOpd.t 49], g := none }, { dst := some 51, op := DOp.bin BinOp.gtr (DOpd.t 50) (DOpd.c (PV.int IntKind.i64 10000)), g := none }]).seq (DCode.cond (DOpd.t 51) ((DCode.reg [{ dst := some 52, op := DOp.build [PV.sl (some true) 0 [] []] [], g := none }, { dst := none, op := DOp.st 1 (DOpd.t 4) (DOpd.t 52), g := none }, { dst := some 5, op := DOp.mv (DOpd.c (PV.int IntKind.i64 2)), g := none }]).seq DCode.ret) DCode.skip)).seq ((DCode.reg [{ dst := some 53, op := DOp.ld (some 1) (DOpd.t 6), g := none }, { dst := none, op := DOp.st 1 (DOpd.t 4) (DOpd.t 53), g := none }, { dst := some 5, op := DOp.mv (DOpd.c (PV.int IntKind.i64 0)), g := none }]).seq DCode.ret))))) }, by kernel_rfl⟩
noncomputable def c_dcut : { d : DFn // compF Tryd.prog 69 = some d } := ⟨{ nt := 80, res := [DRes.c (some 5) 2, DRes.t 3], code := (DCode.reg [{ dst := some 2, op := DOp.alloc [PV.bool false, PV.str [], PV.int IntKind.i64 0, PV.bool false, PV.str []], g := none }, { dst := some 3, op := DOp.mv (DOpd.c (PV.bool false)), g := none }]).seq ((DCode.reg [{ dst := some 4, op := DOp.alloc [PV.bool false, PV.str [], PV.int IntKind.i64 0, PV.bool false, PV.str []], g := none }]).seq ((DCode.reg [{ dst := some 11, op := DOp.mv (DOpd.t 0), g := none }, { dst := some 12, op := DOp.call 92 [DOpd.t 11], g := none }, { dst := some 10, op := DOp.mv (DOpd.t 12), g := none }, { dst := some 13, op := DOp.ext (DOpd.t 10) 0, g := none }, { dst := some 14, op := DOp.ext (DOpd.t 10) 1, g := none }, { dst := some 0, op := DOp.mv (DOpd.t 13), g := none }, { dst := some 15, op := DOp.faddr 0 (DOpd.t 4), g := none }, { dst := none, op := DOp.st 1 (DOpd.t 15) (DOpd.t 14), g := none }]).seq ((DCode.reg [{ dst := some 16, op := DOp.mv (DOpd.t 0), g := none }, { dst := some 17, op := DOp.len true (DOpd.t 16), g := none }, { dst := some 5, op := DOp.mv (DOpd.t 17), g := none }]).seq (DCode.label.seq (((DCode.reg [{ dst := some 18, op := DOp.mv (DOpd.t 0), g := none }, { dst := some 19, op := DOp.len true (DOpd.t 18), g := none }, { dst := some 20, op := DOp.mv (DOpd.c (PV.int IntKind.i64 0)), g := none }]).seq (DCode.block 0 ((DCode.reg [{ dst := some 21, op := DOp.bin BinOp.lss (DOpd.t 20) (DOpd.t 19), g := none }]).seq ((DCode.cond (DOpd.t 21) DCode.skip (DCode.exit 0)).seq ((DCode.block 1 ((DCode.reg [{ dst := some 22, op := DOp.mv (DOpd.t 20), g := none }, { dst := some 6, op := DOp.mv (DOpd.t 22), g := none }]).seq ((DCode.reg [{ dst := some 23, op := DOp.mv (DOpd.t 0), g := none }, { dst := some 24, op := DOp.mv (DOpd.t 6), g := none }, { dst := some 25, op := DOp.idx (DOpd.t 23) (DOpd.t 24), g := none }]).seq (DCode.block 2 (((DCode.reg [{ dst := some 27, op := DOp.bin BinOp.eql (DOpd.t 25) (DOpd.c (PV.int IntKind.u8 101)), g := none }, { dst := some 26, op := DOp.mv (DOpd.t 27), g := none }]).seq (DCode.cond (DOpd.t 26) DCode.skip (DCode.reg [{ dst := some 28, op := DOp.bin BinOp.eql (DOpd.t 25) (DOpd.c (PV.int IntKind.u8 69)), g := none }, { dst := some 26, op := DOp.mv (DOpd.t 28), g := none }]))).seq (DCode.cond (DOpd.t 26) ((DCode.reg [{ dst := some 29, op := DOp.mv (DOpd.t 6), g := none }, { dst := some 5, op := DOp.mv (DOpd.t 29), g := none }]).seq (DCode.exit 0)) DCode.skip)))))).seq (DCode.reg [{ dst := some 30, op := DOp.bin BinOp.add (DOpd.t 20) (DOpd.c (PV.int IntKind.i64 1)), g := none }, { dst := some 20, op := DOp.mv (DOpd.t 30), g := none }])))).loop)).seq ((DCode.reg [{ dst := some 32, op := DOp.mv (DOpd.t 0), g := none }, { dst := some 33, op := DOp.mv (DOpd.t 5), g := none }, { dst := some 34, op := DOp.slc 0 (DOpd.t 32) none (some (DOpd.t 33)) none, g := none }, { dst := some 35, op := DOp.call 41 [DOpd.t 34, DOpd.c (PV.str [46])], g := none }, { dst := some 31, op := DOp.mv (DOpd.t 35), g := none }, { dst := some 36, op := DOp.ext (DOpd.t 31) 0, g := none }, { dst := some 37, op := DOp.ext (DOpd.t 31) 1, g := none }, { dst := some 38, op := DOp.ext (DOpd.t 31) 2, g := none }, { dst := some 7, op := DOp.mv (DOpd.t 36), g := none }, { dst := some 8, op := DOp.mv (DOpd.t 37), g := none }, { dst := some 9, op := DOp.mv (DOpd.t 38), g := none }]).seq ((DCode.reg [{ dst := some 39, op := DOp.mv (DOpd.t 7), g := none }, { dst := some 40, op := DOp.mv (DOpd.t 8), g := none }, { dst := some 41, op := DOp.bin BinOp.add (DOpd.t 39) (DOpd.t 40), g := none }, { dst := some 42, op := DOp.mv (DOpd.t 8), g := none }, { dst := some 43, op := DOp.len true (DOpd.t 42), g := none }, { dst := some 44, op := DOp.faddr 1 (DOpd.t 4), g := none }, { dst := none, op := DOp.st 1 (DOpd.t 44) (DOpd.t 41), g := none }, { dst := some 45, op := DOp.faddr 2 (DOpd.t 4), g := none }, { dst := none, op := DOp.st 1 (DOpd.t 45) (DOpd.t 43), g := none }, { dst := some 46, op := DOp.faddr 4 (DOpd.t 4), g := none }, { dst := none, op := DOp.st 1 (DOpd.t 46) (DOpd.c (PV.str [48])), g := none }]).seq (((DCode.reg [{ dst := some 47, op := DOp.mv (DOpd.t 5), g := none }, { dst := some 48, op := DOp.mv (DOpd.t 0), g := none }, { dst := some 49, op := DOp.len true (DOpd.t 48), g := none }, { dst := some 50, op := DOp.bin BinOp.lss (DOpd.t 47) (DOpd.t 49), g := none }]).seq (DCode.cond (DOpd.t 50) (DCode.reg [{ dst := some 52, op := DOp.mv (DOpd.t 0), g := none }, { dst := some 53, op := DOp.mv (DOpd.t 5), g := none }, { dst := some 54, op := DOp.bin BinOp.add (DOpd.t 53) (DOpd.c (PV.int IntKind.i64 1)), g := none }, { dst := some 55, op := DOp.slc 0 (DOpd.t 52) (some (DOpd.t 54)) none none, g := none }, { dst := some 56, op := DOp.call 92 [DOpd.t 55], g := none }, { dst := some 51, op := DOp.mv (DOpd.t 56), g := none }, { dst := some 57, op := DOp.ext (DOpd.t 51) 0, g := none }, { dst := some 58, op := DOp.ext (DOpd.t 51) 1, g := none }, { dst := some 59, op := DOp.faddr 4 (DOpd.t 4), g := none }, { dst := none, op := DOp.st 1 (DOpd.t 59) (DOpd.t 57), g := none }, { dst := some 60, op := DOp.faddr 3 (DOpd.t 4), g := none }, { dst := none, op := DOp.st 1 (DOpd.t 60) (DOpd.t 58), g := none }]) DCode.skip)).seq ((DCode.draw [({ dst := some 61, op := DOp.ld (some 5) (DOpd.t 4), g := none }, [4], []), ({ dst := some 62, op := DOp.faddr 1 (DOpd.t 4), g := none }, [4], [19]), ({ dst := some 63, op := DOp.ld none (DOpd.t 62), g := none }, [62], [19]), ({ dst := some 64, op := DOp.bin BinOp.neq (DOpd.t 63) (DOpd.c (PV.str [])), g := none }, [63], [19]), ({ dst := some 65, op := DOp.mv (DOpd.t 64), g := none }, [64], [19]), ({ dst := some 66, op := DOp.faddr 4 (DOpd.t 4), g := some (65, true) }, [4, 65], [19]), ({ dst := some 67, op := DOp.ld none (DOpd.t 66), g := some (65, true) }, [66, 65], [19]), ({ dst := some 68, op := DOp.bin BinOp.neq (DOpd.t 67) (DOpd.c (PV.str [])), g := some (65, true) }, [67, 65], [19]), ({ dst := some 69, op := DOp.pick (DOpd.t 65) (DOpd.t 68) (DOpd.c (PV.bool false)), g := none }, [65, 68], [19]), ({ dst := some 70, op := DOp.mv (DOpd.t 69), g := none }, [69], [19]), ({ dst := some 71, op := DOp.faddr 1 (DOpd.t 4), g := some (70, true) }, [4, 70], [19]), ({ dst := some 72, op := DOp.ld none (DOpd.t 71), g := some (70, true) }, [71, 70], [19]), ({ dst := some 73, op := DOp.call 93 [DOpd.t 72], g := some (70, true) }, [72, 70], [19]), ({ dst := some 74, op := DOp.pick (DOpd.t 70) (DOpd.t 73) (DOpd.c (PV.bool false)), g := none }, [70, 73], [19]), ({ dst := some 75, op := DOp.mv (DOpd.t 74), g := none }, [74], [19]), ({ dst := some 76, op := DOp.faddr 4 (DOpd.t 4), g := some (75, true) }, [4, 75], [19]), ({ dst := some 77, op := DOp.ld none (DOpd.t 76), g := some (75, true) }, [76, 75], [19]), ({ dst := some 78, op := DOp.call 93 [DOpd.t 77], g := some (75, true) }, [77, 75], []), ({ dst := some 79, op := DOp.pick (DOpd.t 75) (DOpd.t 78) (DOpd.c (PV.bool false)), g := none }, [75, 78], [19]), ({ dst := none, op := DOp.st 5 (DOpd.t 2) (DOpd.t 61), g := none }, [2, 61], []), ({ dst := some 3, op := DOp.mv (DOpd.t 79), g := none }, [79], [])]).seq DCode.ret))))))))).scope }, by kernel_rfl⟩
noncomputable def c_dparse : { d : DFn // compF Tryd.prog 44 = some d } := ⟨{ nt := 74, res := [DRes.c (some 3) 2, DRes.t 3], code := (DCode.reg [{ dst := some 2, op := DOp.alloc [PV.bool false, PV.sl (some true) 0 [] [], PV.sl (some true) 0 [] []], g := none }, { dst := some 3, op := DOp.mv (DOpd.c (PV.int IntKind.i64 0)), g := none }]).seq ((DCode.reg [{ dst := some 14, op := DOp.mv (DOpd.t 0), g := none }, { dst := some 15, op := DOp.call 69 [DOpd.t 14], g := none }, { dst := some 13, op := DOp.mv (DOpd.t 15), g := none }, { dst := some 16, op := DOp.ext (DOpd.t 13) 0, g := none }, { dst := some 17, op := DOp.ext (DOpd.t 13) 1, g := none }, { dst := some 4, op := DOp.alloc [PV.bool false, PV.str [], PV.int IntKind.i64 0, PV.bool false, PV.str []], g := none }, { dst := none, op := DOp.st 5 (DOpd.t 4) (DOpd.t 16), g := none }, { dst := some 5, op := DOp.mv (DOpd.t 17), g := none }]).seq (((DCode.reg [{ dst := some 18, op := DOp.mv (DOpd.t 5), g := none }, { dst := some 19, op := DOp.un UnOp.not (DOpd.t 18), g := none }]).seq (DCode.cond (DOpd.t 19) ((DCode.reg [{ dst := some 20, op := DOp.build [PV.bool false, PV.sl (some true) 0 [] [], PV.sl (some true) 0 [] []] [], g := none }, { dst := none, op := DOp.st 3 (DOpd.t 2) (DOpd.t 20), g := none }, { dst := some 3, op := DOp.mv (DOpd.c (PV.int IntKind.i64 3)), g := none }]).seq DCode.ret) DCode.skip)).seq ((DCode.reg [{ dst := some 22, op := DOp.faddr 4 (DOpd.t 4), g := none }, { dst := some 23, op := DOp.ld none (DOpd.t 22), g := none }, { dst := some 24, op := DOp.call 70 [DOpd.t 23], g := none }, { dst := some 21, op := DOp.mv (DOpd.t 24), g := none }, { dst := some 25, op := DOp.ext (DOpd.t 21) 0, g := none }, { dst := some 26, op := DOp.ext (DOpd.t 21) 1, g := none }, { dst := some 6, op := DOp.mv (DOpd.t 25), g := none }, { dst := some 5, op := DOp.mv (DOpd.t 26), g := none }]).seq (((DCode.reg [{ dst := some 27, op := DOp.mv (DOpd.t 5), g := none }, { dst := some 28, op := DOp.un UnOp.not (DOpd.t 27), g := none }, { dst := some 29, op := DOp.mv (DOpd.t 28), g := none }, { dst := some 30, op := DOp.faddr 1 (DOpd.t 4), g := some (29, false) }, { dst := some 31, op := DOp.ld none (DOpd.t 30), g := some (29, false) }, { dst := some 32, op := DOp.len true (DOpd.t 31), g := some (29, false) }, { dst := some 33, op := DOp.bin BinOp.gtr (DOpd.t 32) (DOpd.c (PV.int IntKind.i64 400)), g := some (29, false) }, { dst := some 34, op := DOp.pick (DOpd.t 29) (DOpd.c (PV.bool true)) (DOpd.t 33), g := none }]).seq (DCode.cond (DOpd.t 34) ((DCode.reg [{ dst := some 35, op := DOp.build [PV.bool false, PV.sl (some true) 0 [] [], PV.sl (some true) 0 [] []] [], g := none }, { dst := none, op := DOp.st 3 (DOpd.t 2) (DOpd.t 35), g := none }, { dst := some 3, op := DOp.mv (DOpd.c (PV.int IntKind.i64 2)), g := none }]).seq DCode.ret) DCode.skip)).seq (((DCode.reg [{ dst := some 36, op := DOp.faddr 3 (DOpd.t 4), g := none }, { dst := some 37, op := DOp.ld none (DOpd.t 36), g := none }]).seq (DCode.cond (DOpd.t 37) (DCode.reg [{ dst := some 38, op := DOp.mv (DOpd.t 6), g := none }, { dst := some 39, op := DOp.un UnOp.neg (DOpd.t 38), g := none }, { dst := some 6, op := DOp.mv (DOpd.t 39), g := none }]) DCode.skip)).seq ((DCode.reg [{ dst := some 40, op := DOp.mv (DOpd.t 6), g := none }, { dst := some 41, op := DOp.faddr 2 (DOpd.t 4), g := none }, { dst := some 42, op := DOp.ld none (DOpd.t 41), g := none }, { dst := some 43, op := DOp.bin BinOp.sub (DOpd.t 40) (DOpd.t 42), g := none }, { dst := some 6, op := DOp.mv (DOpd.t 43), g := none }]).seq ((DCode.reg [{ dst := some 44, op := DOp.faddr 1 (DOpd.t 4), g := none }, { dst := some 45, op := DOp.ld none (DOpd.t 44), g := none }, { dst := some 46, op := DOp.call 71 [DOpd.t 45, DOpd.c (PV.str [48])], g := none }, { dst := some 7, op := DOp.mv (DOpd.t 46), g := none }]).seq (((DCode.reg [{ dst := some 47, op := DOp.mv (DOpd.t 7), g := none }, { dst := some 48, op := DOp.bin BinOp.eql (DOpd.t 47) (DOpd.c (PV.str [])), g := none }]).seq (DCode.cond (DOpd.t 48) ((DCode.reg [{ dst := some 49, op := DOp.build [PV.bool false, PV.sl (some true) 0 [] [], PV.sl (some true) 0 [] []] [], g := none }, { dst := none, op := DOp.st 3 (DOpd.t 2) (DOpd.t 49), g := none }, { dst := some 3, op := DOp.mv (DOpd.c (PV.int IntKind.i64 0)), g := none }]).seq DCode.ret) DCode.skip)).seq ((DCode.reg [{ dst := some 51, op := DOp.mv (DOpd.t 7), g := none }, { dst := some 52, op := DOp.call 42 [DOpd.t 51], g := none }, { dst := some 50, op := DOp.mv (DOpd.t 52), g := none }, { dst := some 53, op := DOp.ext (DOpd.t 50) 0, g := none }, { dst := some 54, op := DOp.ext (DOpd.t 50) 1, g := none }, { dst := some 8, op := DOp.alloc [PV.sl (some true) 0 [] []], g := none }, { dst := none, op := DOp.st 1 (DOpd.t 8) (DOpd.t 53), g := none }, { dst := some 9, op := DOp.mv (DOpd.t 54), g := none }]).seq ((DCode.reg [{ dst := some 55, op := DOp.call 72 [DOpd.c (PV.int IntKind.u64 1)], g := none }, { dst := some 10, op := DOp.alloc [PV.sl (some true) 0 [] []], g := none }, { dst := none, op := DOp.st 1 (DOpd.t 10) (DOpd.t 55), g := none }]).seq (((DCode.reg [{ dst := some 56, op := DOp.mv (DOpd.t 6), g := none }, { dst := some 57, op := DOp.bin BinOp.lss (DOpd.t 56) (DOpd.c (PV.int IntKind.i64 0)), g := none }]).seq (DCode.cond (DOpd.t 57) (DCode.reg [{ dst := some 58, op := DOp.mv (DOpd.t 6), g := none }, { dst := some 59, op := DOp.un UnOp.neg (DOpd.t 58), g := none }, { dst := some 60, op := DOp.call 73 [DOpd.t 59], g := none }, { dst := none, op := DOp.st 1 (DOpd.t 10) (DOpd.t 60), g := none }]) (DCode.draw [({ dst := some 61, op := DOp.ld (some 1) (DOpd.t 8), g := none }, [8], []), ({ dst := some 62, op := DOp.mv (DOpd.t 6), g := none }, [6], []), ({ dst := some 63, op := DOp.call 73 [DOpd.t 62], g := none }, [62], []), ({ dst := some 64, op := DOp.call 74 [DOpd.t 61, DOpd.t 63], g := none }, [61, 63], []), ({ dst := none, op := DOp.st 1 (DOpd.t 8) (DOpd.t 64), g := none }, [8, 64], [])]))).seq ((DCode.reg [{ dst := some 66, op := DOp.faddr 0 (DOpd.t 4), g := none }, { dst := some 67, op := DOp.ld none (DOpd.t 66), g := none }, { dst := some 68, op := DOp.ld (some 1) (DOpd.t 8), g := none }, { dst := some 69, op := DOp.ld (some 1) (DOpd.t 10), g := none }, { dst := some 70, op := DOp.call 43 [DOpd.t 67, DOpd.t 68, DOpd.t 69], g := none }, { dst := some 65, op := DOp.mv (DOpd.t 70), g := none }, { dst := some 71, op := DOp.ext (DOpd.t 65) 0, g := none }, { dst := some 72, op := DOp.ext (DOpd.t 65) 1, g := none }, { dst := some 11, op := DOp.alloc [PV.bool false, PV.sl (some true) 0 [] [], PV.sl (some true) 0 [] []], g := none }, { dst := none, op := DOp.st 3 (DOpd.t 11) (DOpd.t 71), g := none }, { dst := some 12, op := DOp.mv (DOpd.t 72), g := none }]).seq ((DCode.reg [{ dst := some 73, op := DOp.ld (some 3) (DOpd.t 11), g := none }, { dst := none, op := DOp.st 3 (DOpd.t 2) (DOpd.t 73), g := none }, { dst := some 3, op := DOp.mv (DOpd.c (PV.int IntKind.i64 0)), g := none }]).seq DCode.ret))))))))))))) }, by kernel_rfl⟩
noncomputable def c_strimp : { d : DFn // compF Tryd.prog 107 = some d } := ⟨{ nt := 8, res := [DRes.t 4], code := (DCode.reg [{ dst := some 4, op := DOp.mv (DOpd.c (PV.str [])), g := none }]).seq ((DCode.reg [{ dst := some 5, op := DOp.mv (DOpd.t 0), g := none }, { dst := some 6, op := DOp.mv (DOpd.t 1), g := none }, { dst := some 7, op := DOp.call 119 [DOpd.t 5, DOpd.t 6], g := none }, { dst := some 4, op := DOp.mv (DOpd.t 7), g := none }]).seq DCode.ret) }, by kernel_rfl⟩
noncomputable def c_sltrimp : { d : DFn // compF Tryd.prog 119 = some d } := ⟨{ nt := 13, res := [DRes.t 4], code := (DCode.reg [{ dst := some 4, op := DOp.mv (DOpd.c (PV.str [])), g := none }]).seq (((DCode.reg [{ dst := some 5, op := DOp.mv (DOpd.t 0), g := none }, { dst := some 6, op := DOp.mv (DOpd.t 1), g := none }, { dst := some 7, op := DOp.call 88 [DOpd.t 5, DOpd.t 6], g := none }]).seq (DCode.cond (DOpd.t 7) ((DCode.reg [{ dst := some 8, op := DOp.mv (DOpd.t 0), g := none }, { dst := some 9, op := DOp.mv (DOpd.t 1), g := none }, { dst := some 10, op := DOp.len true (DOpd.t 9), g := none }, { dst := some 11, op := DOp.slc 0 (DOpd.t 8) (some (DOpd.t 10)) none none, g := none }, { dst := some 4, op := DOp.mv (DOpd.t 11), g := none }]).seq DCode.ret) DCode.skip)).seq ((DCode.reg [{ dst := some 12, op := DOp.mv (DOpd.t 0), g := none }, { dst := some 4, op := DOp.mv (DOpd.t 12), g := none }]).seq DCode.ret)) }, by kernel_rfl⟩
noncomputable def c_nbits : { d : DFn // compF Tryd.prog 111 = some d } := ⟨{ nt := 19, res := [DRes.t 2], code := (DCode.reg [{ dst := some 1, op := DOp.box 1 (DOpd.t 0), g := none }, { dst := some 2, op := DOp.mv (DOpd.c (PV.int IntKind.i64 0)), g := none }]).seq (((DCode.reg [{ dst := some 4, op := DOp.ld (some 1) (DOpd.t 1), g := none }, { dst := some 5, op := DOp.call 67 [DOpd.t 4], g := none }]).seq (DCode.cond (DOpd.t 5) ((DCode.reg [{ dst := some 2, op := DOp.mv (DOpd.c (PV.int IntKind.i64 0)), g := none }]).seq DCode.ret) DCode.skip)).seq ((DCode.reg [{ dst := some 6, op := DOp.faddr 0 (DOpd.t 1), g := none }, { dst := some 7, op := DOp.ld none (DOpd.t 6), g := none }, { dst := some 8, op := DOp.len false (DOpd.t 7), g := none }, { dst := some 9, op := DOp.bin BinOp.sub (DOpd.t 8) (DOpd.c (PV.int IntKind.i64 1)), g := none }, { dst := some 3, op := DOp.mv (DOpd.t 9), g := none }]).seq ((DCode.reg [{ dst := some 10, op := DOp.mv (DOpd.t 3), g := none }, { dst := some 11, op := DOp.bin BinOp.mul (DOpd.c (PV.int IntKind.i64 32)) (DOpd.t 10), g := none }, { dst := some 12, op := DOp.faddr 0 (DOpd.t 1), g := none }, { dst := some 13, op := DOp.ld none (DOpd.t 12), g := none }, { dst := some 14, op := DOp.mv (DOpd.t 3), g := none }, { dst := some 15, op := DOp.iaddr 1 (DOpd.t 13) (DOpd.t 14), g := none }, { dst := some 16, op := DOp.ld none (DOpd.t 15), g := none }, { dst := some 17, op := DOp.call 122 [DOpd.t 16], g := none }, { dst := some 18, op := DOp.bin BinOp.add (DOpd.t 11) (DOpd.t 17), g := none }, { dst := some 2, op := DOp.mv (DOpd.t 18), g := none }]).seq DCode.ret))) }, by kernel_rfl⟩
noncomputable def c_blen : { d : DFn // compF Tryd.prog 112 = some d } := ⟨{ nt := 8, res := [DRes.t 2], code := (DCode.reg [{ dst := some 2, op := DOp.mv (DOpd.c (PV.int IntKind.i64 0)), g := none }]).seq ((DCode.cond (DOpd.c (PV.bool false)) ((DCode.reg [{ dst := some 3, op := DOp.mv (DOpd.t 0), g := none }, { dst := some 4, op := DOp.cvi IntKind.u32 (DOpd.t 3), g := none }, { dst := some 5, op := DOp.call 122 [DOpd.t 4], g := none }, { dst := some 2, op := DOp.mv (DOpd.t 5), g := none }]).seq DCode.ret) DCode.skip).seq ((DCode.reg [{ dst := some 6, op := DOp.mv (DOpd.t 0), g := none }, { dst := some 7, op := DOp.call 123 [DOpd.t 6], g := none }, { dst := some 2, op := DOp.mv (DOpd.t 7), g := none }]).seq DCode.ret)) }, by kernel_rfl⟩
noncomputable def c_blen64 : { d : DFn // compF Tryd.prog 123 = some d } := ⟨{ nt := 25, res := [DRes.t 2], code := (DCode.reg [{ dst := some 2, op := DOp.mv (DOpd.c (PV.int IntKind.i64 0)), g := none }]).seq (((DCode.reg [{ dst := some 3, op := DOp.mv (DOpd.t 0), g := none }, { dst := some 4, op := DOp.bin BinOp.geq (DOpd.t 3) (DOpd.c (PV.int IntKind.u64 4294967296)), g := none }]).seq (DCode.cond (DOpd.t 4) ((DCode.reg [{ dst := some 5, op := DOp.mv (DOpd.t 0), g := none }, { dst := some 6, op := DOp.bin BinOp.shr (DOpd.t 5) (DOpd.c (PV.int IntKind.u64 32)), g := none }, { dst := some 0, op := DOp.mv (DOpd.t 6), g := none }]).seq (DCode.reg [{ dst := some 2, op := DOp.mv (DOpd.c (PV.int IntKind.i64 32)), g := none }])) DCode.skip)).seq (((DCode.reg [{ dst := some 7, op := DOp.mv (DOpd.t 0), g := none }, { dst := some 8, op := DOp.bin BinOp.geq (DOpd.t 7) (DOpd.c (PV.int IntKind.u64 65536)), g := none }]).seq (DCode.cond (DOpd.t 8) ((DCode.reg [{ dst := some 9, op := DOp.mv (DOpd.t 0), g := none }, { dst := some 10, op := DOp.bin BinOp.shr (DOpd.t 9) (DOpd.c (PV.int IntKind.u64 16)), g := none }, { dst := some 0, op := DOp.mv (DOpd.t 10), g := none }]).seq (DCode.reg [{ dst := some 11, op := DOp.mv (DOpd.t 2), g := none }, { dst := some 12, op := DOp.bin BinOp.add (DOpd.t 11) (DOpd.c (PV.int IntKind.i64 16)), g := none }, { dst := some 2, op := DOp.mv (DOpd.t 12), g := none }])) DCode.skip)).seq (((DCode.reg [{ dst := some 13, op := DOp.mv (DOpd.t 0), g := none }, { dst := some 14, op := DOp.bin BinOp.geq (DOpd.t 13) (DOpd.c (PV.int IntKind.u64 256)), g := none }]).seq (DCode.cond (DOpd.t 14) ((DCode.reg [{ dst := some 15, op := DOp.mv (DOpd.t 0), g := none }, { dst := some 16, op := DOp.bin BinOp.shr (DOpd.t 15) (DOpd.c (PV.int IntKind.u64 8)), g := none }, { dst := some 0, op := DOp.mv (DOpd.t 16), g := none }]).seq (DCode.reg [{ dst := some 17, op := DOp.mv (DOpd.t 2), g := none }, { dst := some 18, op := DOp.bin BinOp.add (DOpd.t 17) (DOpd.c (PV.int IntKind.i64 8)), g := none }, { dst := some 2, op := DOp.mv (DOpd.t 18), g := none }])) DCode.skip)).seq ((DCode.reg [{ dst := some 19, op := DOp.mv (DOpd.t 2), g := none }, { dst := some 20, op := DOp.mv (DOpd.t 0), g := none }, { dst := some 21, op := DOp.cvi IntKind.u8 (DOpd.t 20), g := none }, { dst := some 22, op := DOp.idx (DOpd.c (PV.str [0, 1, 2, 2, 3, 3, 3, 3, 4, 4, 4, 4, 4, 4, 4, 4, 5, 5, 5, 5, 5, 5, 5, 5, 5, 5, 5, 5, 5, 5, 5, 5, 6, 6, 6, 6, 6, 6, 6, 6, 6, 6, 6, 6, 6, 6, 6, 6, 6, 6, 6, 6, 6, 6, 6, 6, 6, 6, 6, 6, 6, 6, 6, 6, 7, 7, 7, 7, 7, 7, 7, 7, 7, 7, 7, 7, 7, 7, 7, 7, 7, 7, 7, 7, 7, 7, 7, 7, 7, 7, 7, 7, 7, 7, 7, 7, 7, 7, 7, 7, 7, 7, 7, 7, 7, 7, 7, 7, 7, 7, 7, 7, 7, 7, 7, 7, 7, 7, 7, 7, 7, 7, 7, 7, 7, 7, 7, 7, 8, 8, 8, 8, 8, 8, 8, 8, 8, 8, 8, 8, 8, 8, 8, 8, 8, 8, 8, 8, 8, 8, 8, 8, 8, 8, 8, 8, 8, 8, 8, 8, 8, 8, 8, 8, 8, 8, 8, 8, 8, 8, 8, 8, 8, 8, 8, 8, 8, 8, 8, 8, 8, 8, 8, 8, 8, 8, 8, 8, 8, 8, 8, 8, 8, 8, 8, 8, 8, 8, 8, 8, 8, 8, 8, 8, 8, 8, 8, 8, 8, 8, 8, 8, 8, 8, 8, 8, 8, 8, 8, 8, 8, 8, 8, 8, 8, 8, 8, 8, 8, 8, 8, 8, 8, 8, 8, 8, 8, 8, 8, 8, 8, 8, 8, 8, 8, 8, 8, 8, 8, 8, 8, 8, 8, 8, 8, 8])) (DOpd.t 21), g := none }, { dst := some 23, op := DOp.cvi IntKind.i64 (DOpd.t 22), g := none }, { dst := some 24, op := DOp.bin BinOp.add (DOpd.t 19) (DOpd.t 23), g := none }, { dst := some 2, op := DOp.mv (DOpd.t 24), g := none }]).seq DCode.ret)))) }, by kernel_rfl⟩
noncomputable def c_vback : { d : DFn // compF Tryd.prog 4 = some d } := ⟨{ nt := 77, res := [DRes.t 4], code := (DCode.reg [{ dst := some 2, op := DOp.box 3 (DOpd.t 0), g := none }, { dst := some 4, op := DOp.mv (DOpd.c (PV.bool false)), g := none }]).seq (((DCode.reg [{ dst := some 12, op := DOp.ld (some 3) (DOpd.t 2), g := none }, { dst := some 13, op := DOp.bsl 3 1 [PV.int IntKind.i64 0, PV.str [], PV.str []] [(0, DOpd.t 12)], g := none }, { dst := some 14, op := DOp.call 7 [DOpd.t 13], g := none }, { dst := some 15, op := DOp.un UnOp.not (DOpd.t 14), g := none }, { dst := some 16, op := DOp.mv (DOpd.t 15), g := none }, { dst := some 17, op := DOp.mv (DOpd.t 1), g := some (16, false) }, { dst := some 18, op := DOp.len true (DOpd.t 17), g := some (16, false) }, { dst := some 19, op := DOp.bin BinOp.gtr (DOpd.t 18) (DOpd.c (PV.int IntKind.i64 300)), g := some (16, false) }, { dst := some 20, op := DOp.pick (DOpd.t 16) (DOpd.c (PV.bool true)) (DOpd.t 19), g := none }, { dst := some 21, op := DOp.mv (DOpd.t 20), g := none }, { dst := some 22, op := DOp.call 11 [], g := some (21, false) }, { dst := some 23, op := DOp.un UnOp.not (DOpd.t 22), g := some (21, false) }, { dst := some 24, op := DOp.pick (DOpd.t 21) (DOpd.c (PV.bool true)) (DOpd.t 23), g := none }]).seq (DCode.cond (DOpd.t 24) ((DCode.reg [{ dst := some 25, op := DOp.call 11 [], g := none }, { dst := some 4, op := DOp.mv (DOpd.t 25), g := none }]).seq DCode.ret) DCode.skip)).seq ((DCode.reg [{ dst := some 27, op := DOp.mv (DOpd.t 1), g := none }, { dst := some 28, op := DOp.call 12 [DOpd.t 27], g := none }, { dst := some 26, op := DOp.mv (DOpd.t 28), g := none }, { dst := some 29, op := DOp.ext (DOpd.t 26) 0, g := none }, { dst := some 30, op := DOp.ext (DOpd.t 26) 1, g := none }, { dst := some 5, op := DOp.alloc [PV.bool false, PV.sl (some true) 0 [] [], PV.sl (some true) 0 [] []], g := none }, { dst := none, op := DOp.st 3 (DOpd.t 5) (DOpd.t 29), g := none }, { dst := some 6, op := DOp.mv (DOpd.t 30), g := none }]).seq (((DCode.reg [{ dst := some 31, op := DOp.mv (DOpd.t 6), g := none }, { dst := some 32, op := DOp.bin BinOp.eql (DOpd.t 31) (DOpd.c (PV.int IntKind.i64 0)), g := none }]).seq (DCode.cond (DOpd.t 32) ((DCode.reg [{ dst := some 33, op := DOp.ld (some 3) (DOpd.t 5), g := none }, { dst := some 34, op := DOp.call 13 [DOpd.t 33], g := none }, { dst := some 7, op := DOp.alloc [PV.int IntKind.i64 0, PV.str [], PV.str []], g := none }, { dst := none, op := DOp.st 3 (DOpd.t 7) (DOpd.t 34), g := none }]).seq ((DCode.reg [{ dst := some 36, op := DOp.mv (DOpd.t 1), g := none }, { dst := some 37, op := DOp.call 14 [DOpd.t 36], g := none }, { dst := some 35, op := DOp.mv (DOpd.t 37), g := none }, { dst := some 38, op := DOp.ext (DOpd.t 35) 0, g := none }, { dst := some 39, op := DOp.ext (DOpd.t 35) 1, g := none }, { dst := some 8, op := DOp.alloc [PV.int IntKind.i64 0, PV.str [], PV.str []], g := none }, { dst := none, op := DOp.st 3 (DOpd.t 8) (DOpd.t 38), g := none }, { dst := some 9, op := DOp.mv (DOpd.t 39), g := none }]).seq ((DCode.reg [{ dst := some 40, op := DOp.ld (some 3) (DOpd.t 7), g := none }, { dst := some 41, op := DOp.mv (DOpd.t 1), g := none }, { dst := some 42, op := DOp.build [PV.int IntKind.i64 0, PV.str [], PV.str []] [(0, 1, DOpd.c (PV.int IntKind.i64 1)), (1, 1, DOpd.t 41)], g := none }, { dst := some 43, op := DOp.eqs true [EK.int, EK.str, EK.str] (DOpd.t 40) (DOpd.t 42), g := none }, { dst := some 44, op := DOp.mv (DOpd.t 43), g := none }, { dst := some 45, op := DOp.mv (DOpd.t 9), g := some (44, false) }, { dst := some 46, op := DOp.bin BinOp.neq (DOpd.t 45) (DOpd.c (PV.int IntKind.i64 0)), g := some (44, false) }, { dst := some 47, op := DOp.pick (DOpd.t 44) (DOpd.c (PV.bool true)) (DOpd.t 46), g := none }, { dst := some 48, op := DOp.mv (DOpd.t 47), g := none }, { dst := some 49, op := DOp.ld (some 3) (DOpd.t 8), g := some (48, false) }, { dst := some 50, op := DOp.ld (some 3) (DOpd.t 7), g := some (48, false) }, { dst := some 51, op := DOp.eqs true [EK.int, EK.str, EK.str] (DOpd.t 49) (DOpd.t 50), g := some (48, false) }, { dst := some 52, op := DOp.pick (DOpd.t 48) (DOpd.c (PV.bool true)) (DOpd.t 51), g := none }, { dst := some 53, op := DOp.mv (DOpd.t 52), g := none }, { dst := some 54, op := DOp.ld (some 3) (DOpd.t 7), g := some (53, false) }, { dst := some 55, op := DOp.call 15 [DOpd.t 54], g := some (53, false) }, { dst := some 56, op := DOp.un UnOp.not (DOpd.t 55), g := some (53, false) }, { dst := some 57, op := DOp.pick (DOpd.t 53) (DOpd.c (PV.bool true)) (DOpd.t 56), g := none }]).seq (DCode.cond (DOpd.t 57) ((DCode.reg [{ dst := some 4, op := DOp.mv (DOpd.c (PV.bool false)), g := none }]).seq DCode.ret) DCode.skip)))) DCode.skip)).seq (((DCode.reg [{ dst := some 58, op := DOp.ld (some 3) (DOpd.t 2), g := none }, { dst := some 59, op := DOp.call 15 [DOpd.t 58], g := none }, { dst := some 60, op := DOp.un UnOp.not (DOpd.t 59), g := none }]).seq (DCode.cond (DOpd.t 60) ((DCode.reg [{ dst := some 61, op := DOp.ld (some 3) (DOpd.t 2), g := none }, { dst := some 62, op := DOp.call 16 [DOpd.t 61], g := none }, { dst := some 63, op := DOp.bin BinOp.eql (DOpd.t 62) (DOpd.c (PV.str [33])), g := none }, { dst := some 4, op := DOp.mv (DOpd.t 63), g := none }]).seq DCode.ret) DCode.skip)).seq ((DCode.reg [{ dst := some 65, op := DOp.ld (some 3) (DOpd.t 2), g := none }, { dst := some 66, op := DOp.call 16 [DOpd.t 65], g := none }, { dst := some 67, op := DOp.call 14 [DOpd.t 66], g := none }, { dst := some 64, op := DOp.mv (DOpd.t 67), g := none }, { dst := some 68, op := DOp.ext (DOpd.t 64) 0, g := none }, { dst := some 69, op := DOp.ext (DOpd.t 64) 1, g := none }, { dst := some 10, op := DOp.alloc [PV.int IntKind.i64 0, PV.str [], PV.str []], g := none }, { dst := none, op := DOp.st 3 (DOpd.t 10) (DOpd.t 68), g := none }, { dst := some 11, op := DOp.mv (DOpd.t 69), g := none }]).seq ((DCode.reg [{ dst := some 70, op := DOp.mv (DOpd.t 11), g := none }, { dst := some 71, op := DOp.bin BinOp.eql (DOpd.t 70) (DOpd.c (PV.int IntKind.i64 0)), g := none }, { dst := some 72, op := DOp.mv (DOpd.t 71), g := none }, { dst := some 73, op := DOp.ld (some 3) (DOpd.t 10), g := some (72, true) }, { dst := some 74, op := DOp.ld (some 3) (DOpd.t 2), g := some (72, true) }, { dst := some 75, op := DOp.eqs false [EK.int, EK.str, EK.str] (DOpd.t 73) (DOpd.t 74), g := some (72, true) }, { dst := some 76, op := DOp.pick (DOpd.t 72) (DOpd.t 75) (DOpd.c (PV.bool false)), g := none }, { dst := some 4, op := DOp.mv (DOpd.t 76), g := none }]).seq DCode.ret)))))) }, by kernel_rfl⟩
noncomputable def c_vtells : { d : DFn // compF Tryd.prog 5 = some d } := ⟨{ nt := 110, res := [DRes.t 6], code := (DCode.reg [{ dst := some 3, op := DOp.box 3 (DOpd.t 0), g := none }, { dst := some 4, op := DOp.box 3 (DOpd.t 1), g := none }, { dst := some 6, op := DOp.mv (DOpd.c (PV.bool false)), g := none }]).seq (((DCode.reg [{ dst := some 15, op := DOp.ld (some 3) (DOpd.t 3), g := none }, { dst := some 16, op := DOp.ld (some 3) (DOpd.t 4), g := none }, { dst := some 17, op := DOp.bsl 3 2 [PV.int IntKind.i64 0, PV.str [], PV.str []] [(0, DOpd.t 15), (1, DOpd.t 16)], g := none }, { dst := some 18, op := DOp.call 17 [DOpd.t 17], g := none }, { dst := some 19, op := DOp.un UnOp.not (DOpd.t 18), g := none }, { dst := some 20, op := DOp.mv (DOpd.t 19), g := none }, { dst := some 21, op := DOp.mv (DOpd.t 2), g := some (20, false) }, { dst := some 22, op := DOp.len true (DOpd.t 21), g := some (20, false) }, { dst := some 23, op := DOp.bin BinOp.gtr (DOpd.t 22) (DOpd.c (PV.int IntKind.i64 400)), g := some (20, false) }, { dst := some 24, op := DOp.pick (DOpd.t 20) (DOpd.c (PV.bool true)) (DOpd.t 23), g := none }, { dst := some 25, op := DOp.mv (DOpd.t 24), g := none }, { dst := some 26, op := DOp.call 11 [], g := some (25, false) }, { dst := some 27, op := DOp.un UnOp.not (DOpd.t 26), g := some (25, false) }, { dst := some 28, op := DOp.pick (DOpd.t 25) (DOpd.c (PV.bool true)) (DOpd.t 27), g := none }]).seq (DCode.cond (DOpd.t 28) ((DCode.reg [{ dst := some 29, op := DOp.call 11 [], g := none }, { dst := some 6, op := DOp.mv (DOpd.t 29), g := none }]).seq DCode.ret) DCode.skip)).seq ((DCode.reg [{ dst := some 31, op := DOp.ld (some 3) (DOpd.t 3), g := none }, { dst := some 32, op := DOp.call 18 [DOpd.t 31], g := none }, { dst := some 30, op := DOp.mv (DOpd.t 32), g := none }, { dst := some 33, op := DOp.ext (DOpd.t 30) 0, g := none }, { dst := some 34, op := DOp.ext (DOpd.t 30) 1, g := none }, { dst := some 7, op := DOp.alloc [PV.bool false, PV.sl (some true) 0 [] [], PV.sl (some true) 0 [] []], g := none }, { dst := none, op := DOp.st 3 (DOpd.t 7) (DOpd.t 33), g := none }, { dst := some 8, op := DOp.mv (DOpd.t 34), g := none }]).seq ((DCode.reg [{ dst := some 36, op := DOp.ld (some 3) (DOpd.t 3), g := none }, { dst := some 37, op := DOp.call 19 [DOpd.t 36], g := none }, { dst := some 35, op := DOp.mv (DOpd.t 37), g := none }, { dst := some 38, op := DOp.ext (DOpd.t 35) 0, g := none }, { dst := some 39, op := DOp.ext (DOpd.t 35) 1, g := none }, { dst := some 9, op := DOp.alloc [PV.bool false, PV.sl (some true) 0 [] [], PV.sl (some true) 0 [] []], g := none }, { dst := none, op := DOp.st 3 (DOpd.t 9) (DOpd.t 38), g := none }, { dst := some 10, op := DOp.mv (DOpd.t 39), g := none }]).seq (((DCode.draw [({ dst := some 40, op := DOp.mv (DOpd.t 8), g := none }, [8], []), ({ dst := some 41, op := DOp.mv (DOpd.t 10), g := none }, [10], []), ({ dst := some 42, op := DOp.beq true (DOpd.t 40) (DOpd.t 41), g := none }, [40, 41], []), ({ dst := some 43, op := DOp.mv (DOpd.t 42), g := none }, [42], []), ({ dst := some 44, op := DOp.mv (DOpd.t 8), g := some (43, false) }, [8, 43], []), ({ dst := some 45, op := DOp.mv (DOpd.t 44), g := some (43, false) }, [44, 43], []), ({ dst := some 46, op := DOp.ld (some 3) (DOpd.t 7), g := some (45, true) }, [7, 45], []), ({ dst := some 47, op := DOp.call 20 [DOpd.t 46], g := some (45, true) }, [46, 45], []), ({ dst := some 48, op := DOp.ld (some 3) (DOpd.t 9), g := some (45, true) }, [9, 45], []), ({ dst := some 49, op := DOp.call 21 [DOpd.t 48], g := some (45, true) }, [48, 45], []), ({ dst := some 50, op := DOp.bin BinOp.neq (DOpd.t 47) (DOpd.t 49), g := some (45, true) }, [47, 49, 45], []), ({ dst := some 51, op := DOp.pick (DOpd.t 45) (DOpd.t 50) (DOpd.c (PV.bool false)), g := some (43, false) }, [45, 50, 43], []), ({ dst := some 52, op := DOp.pick (DOpd.t 43) (DOpd.c (PV.bool true)) (DOpd.t 51), g := none }, [43, 51], []), ({ dst := some 53, op := DOp.mv (DOpd.t 52), g := none }, [52], []), ({ dst := some 54, op := DOp.mv (DOpd.t 8), g := some (53, false) }, [8, 53], []), ({ dst := some 55, op := DOp.un UnOp.not (DOpd.t 54), g := some (53, false) }, [54, 53], []), ({ dst := some 56, op := DOp.mv (DOpd.t 55), g := some (53, false) }, [55, 53], []), ({ dst := some 57, op := DOp.ld (some 3) (DOpd.t 7), g := some (56, true) }, [7, 56], []), ({ dst := some 58, op := DOp.call 20 [DOpd.t 57], g := some (56, true) }, [57, 56], []), ({ dst := some 59, op := DOp.bin BinOp.neq (DOpd.t 58) (DOpd.c (PV.str [48])), g := some (56, true) }, [58, 56], []), ({ dst := some 60, op := DOp.pick (DOpd.t 56) (DOpd.t 59) (DOpd.c (PV.bool false)), g := some (53, false) }, [56, 59, 53], []), ({ dst := some 61, op := DOp.pick (DOpd.t 53) (DOpd.c (PV.bool true)) (DOpd.t 60), g := none }, [53, 60], [])]).seq (DCode.cond (DOpd.t 61) ((DCode.reg [{ dst := some 6, op := DOp.mv (DOpd.c (PV.bool false)), g := none }]).seq DCode.ret) DCode.skip)).seq ((DCode.reg [{ dst := some 63, op := DOp.mv (DOpd.t 2), g := none }, { dst := some 64, op := DOp.call 14 [DOpd.t 63], g := none }, { dst := some 62, op := DOp.mv (DOpd.t 64), g := none }, { dst := some 65, op := DOp.ext (DOpd.t 62) 0, g := none }, { dst := some 66, op := DOp.ext (DOpd.t 62) 1, g := none }, { dst := some 11, op := DOp.alloc [PV.int IntKind.i64 0, PV.str [], PV.str []], g := none }, { dst := none, op := DOp.st 3 (DOpd.t 11) (DOpd.t 65), g := none }, { dst := some 12, op := DOp.mv (DOpd.t 66), g := none }]).seq ((DCode.reg [{ dst := some 68, op := DOp.mv (DOpd.t 2), g := none }, { dst := some 69, op := DOp.call 22 [DOpd.t 68], g := none }, { dst := some 67, op := DOp.mv (DOpd.t 69), g := none }, { dst := some 70, op := DOp.ext (DOpd.t 67) 0, g := none }, { dst := some 71, op := DOp.ext (DOpd.t 67) 1, g := none }, { dst := some 13, op := DOp.alloc [PV.int IntKind.i64 0, PV.str [], PV.str []], g := none }, { dst := none, op := DOp.st 3 (DOpd.t 13) (DOpd.t 70), g := none }, { dst := some 14, op := DOp.mv (DOpd.t 71), g := none }]).seq ((DCode.draw [({ dst := some 72, op := DOp.ld (some 3) (DOpd.t 3), g := none }, [3], []), ({ dst := some 73, op := DOp.call 15 [DOpd.t 72], g := none }, [72], []), ({ dst := some 74, op := DOp.ld (some 3) (DOpd.t 3), g := none }, [3], []), ({ dst := some 75, op := DOp.call 9 [DOpd.t 74], g := none }, [74], []), ({ dst := some 76, op := DOp.beq false (DOpd.t 73) (DOpd.t 75), g := none }, [73, 75], []), ({ dst := some 77, op := DOp.mv (DOpd.t 76), g := none }, [76], []), ({ dst := some 78, op := DOp.ld (some 3) (DOpd.t 3), g := some (77, true) }, [3, 77], []), ({ dst := some 79, op := DOp.call 16 [DOpd.t 78], g := some (77, true) }, [78, 77], []), ({ dst := some 80, op := DOp.ld (some 3) (DOpd.t 3), g := some (77, true) }, [3, 77], []), ({ dst := some 81, op := DOp.call 23 [DOpd.t 80], g := some (77, true) }, [80, 77], []), ({ dst := some 82, op := DOp.bin BinOp.eql (DOpd.t 79) (DOpd.t 81), g := some (77, true) }, [79, 81, 77], []), ({ dst := some 83, op := DOp.pick (DOpd.t 77) (DOpd.t 82) (DOpd.c (PV.bool false)), g := none }, [77, 82], []), ({ dst := some 84, op := DOp.mv (DOpd.t 83), g := none }, [83], []), ({ dst := some 85, op := DOp.ld (some 3) (DOpd.t 3), g := some (84, true) }, [3, 84], []), ({ dst := some 86, op := DOp.ld (some 3) (DOpd.t 4), g := some (84, true) }, [4, 84], []), ({ dst := some 87, op := DOp.call 24 [DOpd.t 85, DOpd.t 86], g := some (84, true) }, [85, 86, 84], []), ({ dst := some 88, op := DOp.ld (some 3) (DOpd.t 3), g := some (84, true) }, [3, 84], []), ({ dst := some 89, op := DOp.ld (some 3) (DOpd.t 4), g := some (84, true) }, [4, 84], []), ({ dst := some 90, op := DOp.eqs false [EK.int, EK.str, EK.str] (DOpd.t 88) (DOpd.t 89), g := some (84, true) }, [88, 89, 84], []), ({ dst := some 91, op := DOp.beq false (DOpd.t 87) (DOpd.t 90), g := some (84, true) }, [87, 90, 84], []), ({ dst := some 92, op := DOp.pick (DOpd.t 84) (DOpd.t 91) (DOpd.c (PV.bool false)), g := none }, [84, 91], []), ({ dst := some 93, op := DOp.mv (DOpd.t 92), g := none }, [92], []), ({ dst := some 94, op := DOp.ld (some 3) (DOpd.t 11), g := some (93, true) }, [11, 93], []), ({ dst := some 95, op := DOp.ld (some 3) (DOpd.t 13), g := some (93, true) }, [13, 93], []), ({ dst := some 96, op := DOp.eqs false [EK.int, EK.str, EK.str] (DOpd.t 94) (DOpd.t 95), g := some (93, true) }, [94, 95, 93], []), ({ dst := some 97, op := DOp.pick (DOpd.t 93) (DOpd.t 96) (DOpd.c (PV.bool false)), g := none }, [93, 96], []), ({ dst := some 98, op := DOp.mv (DOpd.t 97), g := none }, [97], []), ({ dst := some 99, op := DOp.mv (DOpd.t 12), g := some (98, true) }, [12, 98], []), ({ dst := some 100, op := DOp.mv (DOpd.t 14), g := some (98, true) }, [14, 98], []), ({ dst := some 101, op := DOp.bin BinOp.eql (DOpd.t 99) (DOpd.t 100), g := some (98, true) }, [99, 100, 98], []), ({ dst := some 102, op := DOp.pick (DOpd.t 98) (DOpd.t 101) (DOpd.c (PV.bool false)), g := none }, [98, 101], []), ({ dst := some 103, op := DOp.mv (DOpd.t 102), g := none }, [102], []), ({ dst := some 104, op := DOp.mv (DOpd.t 2), g := some (103, true) }, [2, 103], []), ({ dst := some 105, op := DOp.call 25 [DOpd.t 104], g := some (103, true) }, [104, 103], []), ({ dst := some 106, op := DOp.mv (DOpd.t 2), g := some (103, true) }, [2, 103], []), ({ dst := some 107, op := DOp.build [PV.int IntKind.i64 0, PV.str [], PV.str []] [(0, 1, DOpd.c (PV.int IntKind.i64 2)), (2, 1, DOpd.t 106)], g := some (103, true) }, [106, 103], []), ({ dst := some 108, op := DOp.eqs false [EK.int, EK.str, EK.str] (DOpd.t 105) (DOpd.t 107), g := some (103, true) }, [105, 107, 103], []), ({ dst := some 109, op := DOp.pick (DOpd.t 103) (DOpd.t 108) (DOpd.c (PV.bool false)), g := none }, [103, 108], []), ({ dst := some 6, op := DOp.mv (DOpd.t 109), g := none }, [109], [])]).seq DCode.ret))))))) }, by kernel_rfl⟩
noncomputable def c_vsame : { d : DFn // compF Tryd.prog 24 = some d } := ⟨{ nt := 24, res := [DRes.t 4], code := (DCode.reg [{ dst := some 2, op := DOp.box 3 (DOpd.t 0), g := none }, { dst := some 3, op := DOp.box 3 (DOpd.t 1), g := none }, { dst := some 4, op := DOp.mv (DOpd.c (PV.bool false)), g := none }]).seq ((DCode.reg [{ dst := some 5, op := DOp.faddr 0 (DOpd.t 2), g := none }, { dst := some 6, op := DOp.ld none (DOpd.t 5), g := none }, { dst := some 7, op := DOp.faddr 0 (DOpd.t 3), g := none }, { dst := some 8, op := DOp.ld none (DOpd.t 7), g := none }, { dst := some 9, op := DOp.bin BinOp.eql (DOpd.t 6) (DOpd.t 8), g := none }, { dst := some 10, op := DOp.mv (DOpd.t 9), g := none }, { dst := some 11, op := DOp.faddr 1 (DOpd.t 2), g := some (10, true) }, { dst := some 12, op := DOp.ld none (DOpd.t 11), g := some (10, true) }, { dst := some 13, op := DOp.faddr 1 (DOpd.t 3), g := some (10, true) }, { dst := some 14, op := DOp.ld none (DOpd.t 13), g := some (10, true) }, { dst := some 15, op := DOp.bin BinOp.eql (DOpd.t 12) (DOpd.t 14), g := some (10, true) }, { dst := some 16, op := DOp.pick (DOpd.t 10) (DOpd.t 15) (DOpd.c (PV.bool false)), g := none }, { dst := some 17, op := DOp.mv (DOpd.t 16), g := none }, { dst := some 18, op := DOp.faddr 2 (DOpd.t 2), g := some (17, true) }, { dst := some 19, op := DOp.ld none (DOpd.t 18), g := some (17, true) }, { dst := some 20, op := DOp.faddr 2 (DOpd.t 3), g := some (17, true) }, { dst := some 21, op := DOp.ld none (DOpd.t 20), g := some (17, true) }, { dst := some 22, op := DOp.bin BinOp.eql (DOpd.t 19) (DOpd.t 21), g := some (17, true) }, { dst := some 23, op := DOp.pick (DOpd.t 17) (DOpd.t 22) (DOpd.c (PV.bool false)), g := none }, { dst := some 4, op := DOp.mv (DOpd.t 23), g := none }]).seq DCode.ret) }, by kernel_rfl⟩
noncomputable def c_r12text : { d : DFn // compF Tryd.prog 23 = some d } := ⟨{ nt := 17, res := [DRes.t 2], code := (DCode.reg [{ dst := some 1, op := DOp.box 3 (DOpd.t 0), g := none }, { dst := some 2, op := DOp.mv (DOpd.c (PV.str [])), g := none }]).seq (((DCode.reg [{ dst := some 3, op := DOp.ld (some 3) (DOpd.t 1), g := none }, { dst := some 4, op := DOp.call 9 [DOpd.t 3], g := none }, { dst := some 5, op := DOp.un UnOp.not (DOpd.t 4), g := none }]).seq (DCode.cond (DOpd.t 5) ((DCode.reg [{ dst := some 2, op := DOp.mv (DOpd.c (PV.str [33])), g := none }]).seq DCode.ret) DCode.skip)).seq (((DCode.reg [{ dst := some 6, op := DOp.faddr 0 (DOpd.t 1), g := none }, { dst := some 7, op := DOp.ld none (DOpd.t 6), g := none }]).seq (DCode.block 0 ((DCode.reg [{ dst := some 9, op := DOp.bin BinOp.eql (DOpd.t 7) (DOpd.c (PV.int IntKind.i64 0)), g := none }, { dst := some 8, op := DOp.mv (DOpd.t 9), g := none }]).seq (DCode.cond (DOpd.t 8) ((DCode.reg [{ dst := some 2, op := DOp.mv (DOpd.c (PV.str [63])), g := none }]).seq DCode.ret) ((DCode.reg [{ dst := some 11, op := DOp.bin BinOp.eql (DOpd.t 7) (DOpd.c (PV.int IntKind.i64 1)), g := none }, { dst := some 10, op := DOp.mv (DOpd.t 11), g := none }]).seq (DCode.cond (DOpd.t 10) ((DCode.reg [{ dst := some 12, op := DOp.faddr 1 (DOpd.t 1), g := none }, { dst := some 13, op := DOp.ld none (DOpd.t 12), g := none }, { dst := some 2, op := DOp.mv (DOpd.t 13), g := none }]).seq DCode.ret) DCode.skip)))))).seq ((DCode.reg [{ dst := some 14, op := DOp.faddr 2 (DOpd.t 1), g := none }, { dst := some 15, op := DOp.ld none (DOpd.t 14), g := none }, { dst := some 16, op := DOp.bin BinOp.add (DOpd.c (PV.str [58])) (DOpd.t 15), g := none }, { dst := some 2, op := DOp.mv (DOpd.t 16), g := none }]).seq DCode.ret))) }, by kernel_rfl⟩
noncomputable def c_r12parse : { d : DFn // compF Tryd.prog 22 = some d } := ⟨{ nt := 47, res := [DRes.c (some 3) 2, DRes.t 3], code := (DCode.reg [{ dst := some 2, op := DOp.alloc [PV.int IntKind.i64 0, PV.str [], PV.str []], g := none }, { dst := some 3, op := DOp.mv (DOpd.c (PV.int IntKind.i64 0)), g := none }]).seq (((DCode.reg [{ dst := some 8, op := DOp.mv (DOpd.t 0), g := none }, { dst := some 9, op := DOp.bin BinOp.eql (DOpd.t 8) (DOpd.c (PV.str [63])), g := none }]).seq (DCode.cond (DOpd.t 9) ((DCode.reg [{ dst := some 10, op := DOp.build [PV.int IntKind.i64 0, PV.str [], PV.str []] [], g := none }, { dst := none, op := DOp.st 3 (DOpd.t 2) (DOpd.t 10), g := none }, { dst := some 3, op := DOp.mv (DOpd.c (PV.int IntKind.i64 0)), g := none }]).seq DCode.ret) DCode.skip)).seq (((DCode.reg [{ dst := some 11, op := DOp.mv (DOpd.t 0), g := none }, { dst := some 12, op := DOp.len true (DOpd.t 11), g := none }, { dst := some 13, op := DOp.bin BinOp.gtr (DOpd.t 12) (DOpd.c (PV.int IntKind.i64 0)), g := none }, { dst := some 14, op := DOp.mv (DOpd.t 13), g := none }, { dst := some 15, op := DOp.mv (DOpd.t 0), g := some (14, true) }, { dst := some 16, op := DOp.idx (DOpd.t 15) (DOpd.c (PV.int IntKind.i64 0)), g := some (14, true) }, { dst := some 17, op := DOp.bin BinOp.eql (DOpd.t 16) (DOpd.c (PV.int IntKind.u8 58)), g := some (14, true) }, { dst := some 18, op := DOp.pick (DOpd.t 14) (DOpd.t 17) (DOpd.c (PV.bool false)), g := none }]).seq (DCode.cond (DOpd.t 18) (((DCode.reg [{ dst := some 19, op := DOp.mv (DOpd.t 0), g := none }, { dst := some 20, op := DOp.len true (DOpd.t 19), g := none }, { dst := some 21, op := DOp.bin BinOp.gtr (DOpd.t 20) (DOpd.c (PV.int IntKind.i64 61)), g := none }]).seq (DCode.cond (DOpd.t 21) ((DCode.reg [{ dst := some 22, op := DOp.build [PV.int IntKind.i64 0, PV.str [], PV.str []] [], g := none }, { dst := none, op := DOp.st 3 (DOpd.t 2) (DOpd.t 22), g := none }, { dst := some 3, op := DOp.mv (DOpd.c (PV.int IntKind.i64 3)), g := none }]).seq DCode.ret) DCode.skip)).seq ((DCode.reg [{ dst := some 23, op := DOp.mv (DOpd.t 0), g := none }, { dst := some 24, op := DOp.slc 0 (DOpd.t 23) (some (DOpd.c (PV.int IntKind.i64 1))) none none, g := none }, { dst := some 25, op := DOp.build [PV.int IntKind.i64 0, PV.str [], PV.str []] [(0, 1, DOpd.c (PV.int IntKind.i64 2)), (2, 1, DOpd.t 24)], g := none }, { dst := none, op := DOp.st 3 (DOpd.t 2) (DOpd.t 25), g := none }, { dst := some 3, op := DOp.mv (DOpd.c (PV.int IntKind.i64 0)), g := none }]).seq DCode.ret)) DCode.skip)).seq ((DCode.reg [{ dst := some 27, op := DOp.mv (DOpd.t 0), g := none }, { dst := some 28, op := DOp.call 46 [DOpd.t 27], g := none }, { dst := some 26, op := DOp.mv (DOpd.t 28), g := none }, { dst := some 29, op := DOp.ext (DOpd.t 26) 0, g := none }, { dst := some 30, op := DOp.ext (DOpd.t 26) 1, g := none }, { dst := some 4, op := DOp.alloc [PV.bool false, PV.sl (some true) 0 [] [], PV.sl (some true) 0 [] []], g := none }, { dst := none, op := DOp.st 3 (DOpd.t 4) (DOpd.t 29), g := none }, { dst := some 5, op := DOp.mv (DOpd.t 30), g := none }]).seq (((DCode.reg [{ dst := some 31, op := DOp.mv (DOpd.t 5), g := none }, { dst := some 32, op := DOp.bin BinOp.eql (DOpd.t 31) (DOpd.c (PV.int IntKind.i64 0)), g := none }]).seq (DCode.cond (DOpd.t 32) ((DCode.reg [{ dst := some 33, op := DOp.mv (DOpd.t 0), g := none }, { dst := some 34, op := DOp.build [PV.int IntKind.i64 0, PV.str [], PV.str []] [(0, 1, DOpd.c (PV.int IntKind.i64 1)), (1, 1, DOpd.t 33)], g := none }, { dst := none, op := DOp.st 3 (DOpd.t 2) (DOpd.t 34), g := none }, { dst := some 3, op := DOp.mv (DOpd.c (PV.int IntKind.i64 0)), g := none }]).seq DCode.ret) DCode.skip)).seq ((DCode.reg [{ dst := some 36, op := DOp.mv (DOpd.t 0), g := none }, { dst := some 37, op := DOp.call 51 [DOpd.t 36], g := none }, { dst := some 35, op := DOp.mv (DOpd.t 37), g := none }, { dst := some 38, op := DOp.ext (DOpd.t 35) 0, g := none }, { dst := some 39, op := DOp.ext (DOpd.t 35) 1, g := none }, { dst := some 6, op := DOp.alloc [PV.bool false, PV.sl (some true) 0 [] [], PV.sl (some true) 0 [] []], g := none }, { dst := none, op := DOp.st 3 (DOpd.t 6) (DOpd.t 38), g := none }, { dst := some 7, op := DOp.mv (DOpd.t 39), g := none }]).seq (((DCode.reg [{ dst := some 40, op := DOp.mv (DOpd.t 7), g := none }, { dst := some 41, op := DOp.bin BinOp.neq (DOpd.t 40) (DOpd.c (PV.int IntKind.i64 0)), g := none }]).seq (DCode.cond (DOpd.t 41) ((DCode.reg [{ dst := some 42, op := DOp.build [PV.int IntKind.i64 0, PV.str [], PV.str []] [], g := none }, { dst := some 43, op := DOp.mv (DOpd.t 7), g := none }, { dst := none, op := DOp.st 3 (DOpd.t 2) (DOpd.t 42), g := none }, { dst := some 3, op := DOp.mv (DOpd.t 43), g := none }]).seq DCode.ret) DCode.skip)).seq ((DCode.reg [{ dst := some 44, op := DOp.ld (some 3) (DOpd.t 6), g := none }, { dst := some 45, op := DOp.call 21 [DOpd.t 44], g := none }, { dst := some 46, op := DOp.build [PV.int IntKind.i64 0, PV.str [], PV.str []] [(0, 1, DOpd.c (PV.int IntKind.i64 1)), (1, 1, DOpd.t 45)], g := none }, { dst := none, op := DOp.st 3 (DOpd.t 2) (DOpd.t 46), g := none }, { dst := some 3, op := DOp.mv (DOpd.c (PV.int IntKind.i64 0)), g := none }]).seq DCode.ret))))))) }, by kernel_rfl⟩
noncomputable def c_lit : { d : DFn // compF Tryd.prog 51 = some d } := ⟨{ nt := 209, res := [DRes.c (some 3) 2, DRes.t 3], code := (DCode.reg [{ dst := some 2, op := DOp.alloc [PV.bool false, PV.sl (some true) 0 [] [], PV.sl (some true) 0 [] []], g := none }, { dst := some 3, op := DOp.mv (DOpd.c (PV.int IntKind.i64 0)), g := none }]).seq ((DCode.reg [{ dst := some 16, op := DOp.bsl 1 1 [PV.int IntKind.i64 0] [(0, DOpd.c (PV.int IntKind.i64 1))], g := none }, { dst := some 17, op := DOp.build [PV.bool false, PV.sl (some true) 0 [] [], PV.sl (some true) 0 [] []] [(2, 1, DOpd.t 16)], g := none }, { dst := some 4, op := DOp.alloc [PV.bool false, PV.sl (some true) 0 [] [], PV.sl (some true) 0 [] []], g := none }, { dst := none, op := DOp.st 3 (DOpd.t 4) (DOpd.t 17), g := none }]).seq ((DCode.reg [{ dst := some 5, op := DOp.mv (DOpd.c (PV.int IntKind.i64 0)), g := none }]).seq ((DCode.reg [{ dst := some 6, op := DOp.mv (DOpd.c (PV.bool false)), g := none }]).seq (((DCode.reg [{ dst := some 18, op := DOp.mv (DOpd.t 5), g := none }, { dst := some 19, op := DOp.mv (DOpd.t 0), g := none }, { dst := some 20, op := DOp.len true (DOpd.t 19), g := none }, { dst := some 21, op := DOp.bin BinOp.lss (DOpd.t 18) (DOpd.t 20), g := none }, { dst := some 22, op := DOp.mv (DOpd.t 21), g := none }, { dst := some 23, op := DOp.mv (DOpd.t 0), g := some (22, true) }, { dst := some 24, op := DOp.mv (DOpd.t 5), g := some (22, true) }, { dst := some 25, op := DOp.idx (DOpd.t 23) (DOpd.t 24), g := some (22, true) }, { dst := some 26, op := DOp.bin BinOp.eql (DOpd.t 25) (DOpd.c (PV.int IntKind.u8 43)), g := some (22, true) }, { dst := some 27, op := DOp.mv (DOpd.t 26), g := some (22, true) }, { dst := some 28, op := DOp.mv (DOpd.t 0), g := some (27, false) }, { dst := some 29, op := DOp.mv (DOpd.t 5), g := some (27, false) }, { dst := some 30, op := DOp.idx (DOpd.t 28) (DOpd.t 29), g := some (27, false) }, { dst := some 31, op := DOp.bin BinOp.eql (DOpd.t 30) (DOpd.c (PV.int IntKind.u8 45)), g := some (27, false) }, { dst := some 32, op := DOp.pick (DOpd.t 27) (DOpd.c (PV.bool true)) (DOpd.t 31), g := some (22, true) }, { dst := some 33, op := DOp.pick (DOpd.t 22) (DOpd.t 32) (DOpd.c (PV.bool false)), g := none }]).seq (DCode.cond (DOpd.t 33) ((DCode.reg [{ dst := some 34, op := DOp.mv (DOpd.t 0), g := none }, { dst := some 35, op := DOp.mv (DOpd.t 5), g := none }, { dst := some 36, op := DOp.idx (DOpd.t 34) (DOpd.t 35), g := none }, { dst := some 37, op := DOp.bin BinOp.eql (DOpd.t 36) (DOpd.c (PV.int IntKind.u8 45)), g := none }, { dst := some 6, op := DOp.mv (DOpd.t 37), g := none }]).seq (DCode.reg [{ dst := some 38, op := DOp.mv (DOpd.t 5), g := none }, { dst := some 39, op := DOp.bin BinOp.add (DOpd.t 38) (DOpd.c (PV.int IntKind.i64 1)), g := none }, { dst := some 5, op := DOp.mv (DOpd.t 39), g := none }])) DCode.skip)).seq ((DCode.reg [{ dst := some 7, op := DOp.mv (DOpd.c (PV.str [])), g := none }, { dst := some 8, op := DOp.mv (DOpd.c (PV.int IntKind.i64 0)), g := none }]).seq ((DCode.reg [{ dst := some 9, op := DOp.mv (DOpd.c (PV.bool false)), g := none }]).seq ((DCode.block 0 (((DCode.reg [{ dst := some 40, op := DOp.mv (DOpd.t 5), g := none }, { dst := some 41, op := DOp.mv (DOpd.t 0), g := none }, { dst := some 42, op := DOp.len true (DOpd.t 41), g := none }, { dst := some 43, op := DOp.bin BinOp.lss (DOpd.t 40) (DOpd.t 42), g := none }, { dst := some 44, op := DOp.mv (DOpd.t 43), g := none }, { dst := some 45, op := DOp.mv (DOpd.t 0), g := some (44, true) }, { dst := some 46, op := DOp.mv (DOpd.t 5), g := some (44, true) }, { dst := some 47, op := DOp.idx (DOpd.t 45) (DOpd.t 46), g := some (44, true) }, { dst := some 48, op := DOp.bin BinOp.geq (DOpd.t 47) (DOpd.c (PV.int IntKind.u8 48)), g := some (44, true) }, { dst := some 49, op := DOp.mv (DOpd.t 48), g := some (44, true) }, { dst := some 50, op := DOp.mv (DOpd.t 0), g := some (49, true) }, { dst := some 51, op := DOp.mv (DOpd.t 5), g := some (49, true) }, { dst := some 52, op := DOp.idx (DOpd.t 50) (DOpd.t 51), g := some (49, true) }, { dst := some 53, op := DOp.bin BinOp.leq (DOpd.t 52) (DOpd.c (PV.int IntKind.u8 57)), g := some (49, true) }, { dst := some 54, op := DOp.pick (DOpd.t 49) (DOpd.t 53) (DOpd.c (PV.bool false)), g := some (44, true) }, { dst := some 55, op := DOp.mv (DOpd.t 54), g := some (44, true) }, { dst := some 56, op := DOp.mv (DOpd.t 0), g := some (55, false) }, { dst := some 57, op := DOp.mv (DOpd.t 5), g := some (55, false) }, { dst := some 58, op := DOp.idx (DOpd.t 56) (DOpd.t 57), g := some (55, false) }, { dst := some 59, op := DOp.bin BinOp.eql (DOpd.t 58) (DOpd.c (PV.int IntKind.u8 46)), g := some (55, false) }, { dst := some 60, op := DOp.mv (DOpd.t 59), g := some (55, false) }, { dst := some 61, op := DOp.mv (DOpd.t 9), g := some (60, true) }, { dst := some 62, op := DOp.un UnOp.not (DOpd.t 61), g := some (60, true) }, { dst := some 63, op := DOp.pick (DOpd.t 60) (DOpd.t 62) (DOpd.c (PV.bool false)), g := some (55, false) }, { dst := some 64, op := DOp.pick (DOpd.t 55) (DOpd.c (PV.bool true)) (DOpd.t 63), g := some (44, true) }, { dst := some 65, op := DOp.pick (DOpd.t 44) (DOpd.t 64) (DOpd.c (PV.bool false)), g := none }]).seq (DCode.cond (DOpd.t 65) DCode.skip (DCode.exit 0))).seq ((DCode.block 1 (((DCode.reg [{ dst := some 68, op := DOp.mv (DOpd.t 0), g := none }, { dst := some 69, op := DOp.mv (DOpd.t 5), g := none }, { dst := some 70, op := DOp.idx (DOpd.t 68) (DOpd.t 69), g := none }, { dst := some 71, op := DOp.bin BinOp.eql (DOpd.t 70) (DOpd.c (PV.int IntKind.u8 46)), g := none }]).seq (DCode.cond (DOpd.t 71) ((DCode.reg [{ dst := some 9, op := DOp.mv (DOpd.c (PV.bool true)), g := none }]).seq (DCode.exit 1)) DCode.skip)).seq ((DCode.reg [{ dst := some 72, op := DOp.mv (DOpd.t 7), g := none }, { dst := some 73, op := DOp.mv (DOpd.t 0), g := none }, { dst := some 74, op := DOp.mv (DOpd.t 5), g := none }, { dst := some 75, op := DOp.mv (DOpd.t 5), g := none }, { dst := some 76, op := DOp.bin BinOp.add (DOpd.t 75) (DOpd.c (PV.int IntKind.i64 1)), g := none }, { dst := some 77, op := DOp.slc 0 (DOpd.t 73) (some (DOpd.t 74)) (some (DOpd.t 76)) none, g := none }, { dst := some 78, op := DOp.bin BinOp.add (DOpd.t 72) (DOpd.t 77), g := none }, { dst := some 7, op := DOp.mv (DOpd.t 78), g := none }]).seq ((DCode.reg [{ dst := some 79, op := DOp.mv (DOpd.t 9), g := none }]).seq (DCode.cond (DOpd.t 79) (DCode.reg [{ dst := some 80, op := DOp.mv (DOpd.t 8), g := none }, { dst := some 81, op := DOp.bin BinOp.add (DOpd.t 80) (DOpd.c (PV.int IntKind.i64 1)), g := none }, { dst := some 8, op := DOp.mv (DOpd.t 81), g := none }]) DCode.skip))))).seq (DCode.reg [{ dst := some 66, op := DOp.mv (DOpd.t 5), g := none }, { dst := some 67, op := DOp.bin BinOp.add (DOpd.t 66) (DOpd.c (PV.int IntKind.i64 1)), g := none }, { dst := some 5, op := DOp.mv (DOpd.t 67), g := none }]))).loop).seq (((DCode.reg [{ dst := some 82, op := DOp.mv (DOpd.t 7), g := none }, { dst := some 83, op := DOp.bin BinOp.eql (DOpd.t 82) (DOpd.c (PV.str [])), g := none }]).seq (DCode.cond (DOpd.t 83) ((DCode.reg [{ dst := some 84, op := DOp.ld (some 3) (DOpd.t 4), g := none }, { dst := none, op := DOp.st 3 (DOpd.t 2) (DOpd.t 84), g := none }, { dst := some 3, op := DOp.mv (DOpd.c (PV.int IntKind.i64 3)), g := none }]).seq DCode.ret) DCode.skip)).seq ((DCode.reg [{ dst := some 10, op := DOp.mv (DOpd.c (PV.int IntKind.i64 0)), g := none }, { dst := some 11, op := DOp.mv (DOpd.c (PV.bool false)), g := none }]).seq (((DCode.reg [{ dst := some 85, op := DOp.mv (DOpd.t 5), g := none }, { dst := some 86, op := DOp.mv (DOpd.t 0), g := none }, { dst := some 87, op := DOp.len true (DOpd.t 86), g := none }, { dst := some 88, op := DOp.bin BinOp.lss (DOpd.t 85) (DOpd.t 87), g := none }]).seq (DCode.cond (DOpd.t 88) (((DCode.reg [{ dst := some 89, op := DOp.mv (DOpd.t 0), g := none }, { dst := some 90, op := DOp.mv (DOpd.t 5), g := none }, { dst := some 91, op := DOp.idx (DOpd.t 89) (DOpd.t 90), g := none }, { dst := some 92, op := DOp.bin BinOp.neq (DOpd.t 91) (DOpd.c (PV.int IntKind.u8 101)), g := none }, { dst := some 93, op := DOp.mv (DOpd.t 92), g := none }, { dst := some 94, op := DOp.mv (DOpd.t 0), g := some (93, true) }, { dst := some 95, op := DOp.mv (DOpd.t 5), g := some (93, true) }, { dst := some 96, op := DOp.idx (DOpd.t 94) (DOpd.t 95), g := some (93, true) }, { dst := some 97, op := DOp.bin BinOp.neq (DOpd.t 96) (DOpd.c (PV.int IntKind.u8 69)), g := some (93, true) }, { dst := some 98, op := DOp.pick (DOpd.t 93) (DOpd.t 97) (DOpd.c (PV.bool false)), g := none }]).seq (DCode.cond (DOpd.t 98) ((DCode.reg [{ dst := some 99, op := DOp.ld (some 3) (DOpd.t 4), g := none }, { dst := none, op := DOp.st 3 (DOpd.t 2) (DOpd.t 99), g := none }, { dst := some 3, op := DOp.mv (DOpd.c (PV.int IntKind.i64 3)), g := none }]).seq DCode.ret) DCode.skip)).seq ((DCode.reg [{ dst := some 100, op := DOp.mv (DOpd.t 5), g := none }, { dst := some 101, op := DOp.bin BinOp.add (DOpd.t 100) (DOpd.c (PV.int IntKind.i64 1)), g := none }, { dst := some 5, op := DOp.mv (DOpd.t 101), g := none }]).seq (((DCode.reg [{ dst := some 102, op := DOp.mv (DOpd.t 5), g := none }, { dst := some 103, op := DOp.mv (DOpd.t 0), g := none }, { dst := some 104, op := DOp.len true (DOpd.t 103), g := none }, { dst := some 105, op := DOp.bin BinOp.lss (DOpd.t 102) (DOpd.t 104), g := none }, { dst := some 106, op := DOp.mv (DOpd.t 105), g := none }, { dst := some 107, op := DOp.mv (DOpd.t 0), g := some (106, true) }, { dst := some 108, op := DOp.mv (DOpd.t 5), g := some (106, true) }, { dst := some 109, op := DOp.idx (DOpd.t 107) (DOpd.t 108), g := some (106, true) }, { dst := some 110, op := DOp.bin BinOp.eql (DOpd.t 109) (DOpd.c (PV.int IntKind.u8 43)), g := some (106, true) }, { dst := some 111, op := DOp.mv (DOpd.t 110), g := some (106, true) }, { dst := some 112, op := DOp.mv (DOpd.t 0), g := some (111, false) }, { dst := some 113, op := DOp.mv (DOpd.t 5), g := some (111, false) }, { dst := some 114, op := DOp.idx (DOpd.t 112) (DOpd.t 113), g := some (111, false) }, { dst := some 115, op := DOp.bin BinOp.eql (DOpd.t 114) (DOpd.c (PV.int IntKind.u8 45)), g := some (111, false) }, { dst := some 116, op := DOp.pick (DOpd.t 111) (DOpd.c (PV.bool true)) (DOpd.t 115), g := some (106, true) }, { dst := some 117, op := DOp.pick (DOpd.t 106) (DOpd.t 116) (DOpd.c (PV.bool false)), g := none }]).seq (DCode.cond (DOpd.t 117) ((DCode.reg [{ dst := some 118, op := DOp.mv (DOpd.t 0), g := none }, { dst := some 119, op := DOp.mv (DOpd.t 5), g := none }, { dst := some 120, op := DOp.idx (DOpd.t 118) (DOpd.t 119), g := none }, { dst := some 121, op := DOp.bin BinOp.eql (DOpd.t 120) (DOpd.c (PV.int IntKind.u8 45)), g := none }, { dst := some 11, op := DOp.mv (DOpd.t 121), g := none }]).seq (DCode.reg [{ dst := some 122, op := DOp.mv (DOpd.t 5), g := none }, { dst := some 123, op := DOp.bin BinOp.add (DOpd.t 122) (DOpd.c (PV.int IntKind.i64 1)), g := none }, { dst := some 5, op := DOp.mv (DOpd.t 123), g := none }])) DCode.skip)).seq (((DCode.reg [{ dst := some 124, op := DOp.mv (DOpd.t 5), g := none }, { dst := some 125, op := DOp.mv (DOpd.t 0), g := none }, { dst := some 126, op := DOp.len true (DOpd.t 125), g := none }, { dst := some 127, op := DOp.bin BinOp.eql (DOpd.t 124) (DOpd.t 126), g := none }]).seq (DCode.cond (DOpd.t 127) ((DCode.reg [{ dst := some 128, op := DOp.ld (some 3) (DOpd.t 4), g := none }, { dst := none, op := DOp.st 3 (DOpd.t 2) (DOpd.t 128), g := none }, { dst := some 3, op := DOp.mv (DOpd.c (PV.int IntKind.i64 3)), g := none }]).seq DCode.ret) DCode.skip)).seq (DCode.block 2 (((DCode.reg [{ dst := some 129, op := DOp.mv (DOpd.t 5), g := none }, { dst := some 130, op := DOp.mv (DOpd.t 0), g := none }, { dst := some 131, op := DOp.len true (DOpd.t 130), g := none }, { dst := some 132, op := DOp.bin BinOp.lss (DOpd.t 129) (DOpd.t 131), g := none }]).seq (DCode.cond (DOpd.t 132) DCode.skip (DCode.exit 2))).seq ((DCode.block 3 (((DCode.reg [{ dst := some 135, op := DOp.mv (DOpd.t 0), g := none }, { dst := some 136, op := DOp.mv (DOpd.t 5), g := none }, { dst := some 137, op := DOp.idx (DOpd.t 135) (DOpd.t 136), g := none }, { dst := some 138, op := DOp.bin BinOp.lss (DOpd.t 137) (DOpd.c (PV.int IntKind.u8 48)), g := none }, { dst := some 139, op := DOp.mv (DOpd.t 138), g := none }, { dst := some 140, op := DOp.mv (DOpd.t 0), g := some (139, false) }, { dst := some 141, op := DOp.mv (DOpd.t 5), g := some (139, false) }, { dst := some 142, op := DOp.idx (DOpd.t 140) (DOpd.t 141), g := some (139, false) }, { dst := some 143, op := DOp.bin BinOp.gtr (DOpd.t 142) (DOpd.c (PV.int IntKind.u8 57)), g := some (139, false) }, { dst := some 144, op := DOp.pick (DOpd.t 139) (DOpd.c (PV.bool true)) (DOpd.t 143), g := none }]).seq (DCode.cond (DOpd.t 144) ((DCode.reg [{ dst := some 145, op := DOp.ld (some 3) (DOpd.t 4), g := none }, { dst := none, op := DOp.st 3 (DOpd.t 2) (DOpd.t 145), g := none }, { dst := some 3, op := DOp.mv (DOpd.c (PV.int IntKind.i64 3)), g := none }]).seq DCode.ret) DCode.skip)).seq (DCode.reg [{ dst := some 146, op := DOp.mv (DOpd.t 10), g := none }, { dst := some 147, op := DOp.bin BinOp.mul (DOpd.t 146) (DOpd.c (PV.int IntKind.i64 10)), g := none }, { dst := some 148, op := DOp.mv (DOpd.t 0), g := none }, { dst := some 149, op := DOp.mv (DOpd.t 5), g := none }, { dst := some 150, op := DOp.idx (DOpd.t 148) (DOpd.t 149), g := none }, { dst := some 151, op := DOp.bin BinOp.sub (DOpd.t 150) (DOpd.c (PV.int IntKind.u8 48)), g := none }, { dst := some 152, op := DOp.cvi IntKind.i64 (DOpd.t 151), g := none }, { dst := some 153, op := DOp.bin BinOp.add (DOpd.t 147) (DOpd.t 152), g := none }, { dst := some 154, op := DOp.mx false (DOpd.t 153) (DOpd.c (PV.int IntKind.i64 1000)), g := none }, { dst := some 10, op := DOp.mv (DOpd.t 154), g := none }]))).seq (DCode.reg [{ dst := some 133, op := DOp.mv (DOpd.t 5), g := none }, { dst := some 134, op := DOp.bin BinOp.add (DOpd.t 133) (DOpd.c (PV.int IntKind.i64 1)), g := none }, { dst := some 5, op := DOp.mv (DOpd.t 134), g := none }]))).loop))))) DCode.skip)).seq (((DCode.reg [{ dst := some 155, op := DOp.mv (DOpd.t 7), g := none }, { dst := some 156, op := DOp.len true (DOpd.t 155), g := none }, { dst := some 157, op := DOp.bin BinOp.gtr (DOpd.t 156) (DOpd.c (PV.int IntKind.i64 400)), g := none }, { dst := some 158, op := DOp.mv (DOpd.t 157), g := none }, { dst := some 159, op := DOp.mv (DOpd.t 10), g := some (158, false) }, { dst := some 160, op := DOp.bin BinOp.gtr (DOpd.t 159) (DOpd.c (PV.int IntKind.i64 400)), g := some (158, false) }, { dst := some 161, op := DOp.pick (DOpd.t 158) (DOpd.c (PV.bool true)) (DOpd.t 160), g := none }]).seq (DCode.cond (DOpd.t 161) ((DCode.reg [{ dst := some 162, op := DOp.ld (some 3) (DOpd.t 4), g := none }, { dst := none, op := DOp.st 3 (DOpd.t 2) (DOpd.t 162), g := none }, { dst := some 3, op := DOp.mv (DOpd.c (PV.int IntKind.i64 2)), g := none }]).seq DCode.ret) DCode.skip)).seq ((DCode.block 4 (((DCode.reg [{ dst := some 163, op := DOp.mv (DOpd.t 7), g := none }, { dst := some 164, op := DOp.len true (DOpd.t 163), g := none }, { dst := some 165, op := DOp.bin BinOp.gtr (DOpd.t 164) (DOpd.c (PV.int IntKind.i64 1)), g := none }, { dst := some 166, op := DOp.mv (DOpd.t 165), g := none }, { dst := some 167, op := DOp.mv (DOpd.t 7), g := some (166, true) }, { dst := some 168, op := DOp.idx (DOpd.t 167) (DOpd.c (PV.int IntKind.i64 0)), g := some (166, true) }, { dst := some 169, op := DOp.bin BinOp.eql (DOpd.t 168) (DOpd.c (PV.int IntKind.u8 48)), g := some (166, true) }, { dst := some 170, op := DOp.pick (DOpd.t 166) (DOpd.t 169) (DOpd.c (PV.bool false)), g := none }]).seq (DCode.cond (DOpd.t 170) DCode.skip (DCode.exit 4))).seq (DCode.block 5 (DCode.reg [{ dst := some 171, op := DOp.mv (DOpd.t 7), g := none }, { dst := some 172, op := DOp.slc 0 (DOpd.t 171) (some (DOpd.c (PV.int IntKind.i64 1))) none none, g := none }, { dst := some 7, op := DOp.mv (DOpd.t 172), g := none }]))).loop).seq ((DCode.reg [{ dst := some 174, op := DOp.mv (DOpd.t 7), g := none }, { dst := some 175, op := DOp.call 75 [DOpd.t 174], g := none }, { dst := some 173, op := DOp.mv (DOpd.t 175), g := none }, { dst := some 176, op := DOp.ext (DOpd.t 173) 0, g := none }, { dst := some 177, op := DOp.ext (DOpd.t 173) 1, g := none }, { dst := some 12, op := DOp.mv (DOpd.t 176), g := none }, { dst := some 13, op := DOp.mv (DOpd.t 177), g := none }]).seq (((DCode.reg [{ dst := some 178, op := DOp.mv (DOpd.t 11), g := none }]).seq (DCode.cond (DOpd.t 178) (DCode.reg [{ dst := some 179, op := DOp.mv (DOpd.t 10), g := none }, { dst := some 180, op := DOp.un UnOp.neg (DOpd.t 179), g := none }, { dst := some 10, op := DOp.mv (DOpd.t 180), g := none }]) DCode.skip)).seq ((DCode.reg [{ dst := some 181, op := DOp.mv (DOpd.t 10), g := none }, { dst := some 182, op := DOp.mv (DOpd.t 8), g := none }, { dst := some 183, op := DOp.bin BinOp.sub (DOpd.t 181) (DOpd.t 182), g := none }, { dst := some 10, op := DOp.mv (DOpd.t 183), g := none }]).seq ((DCode.reg [{ dst := some 184, op := DOp.bsl 1 1 [PV.int IntKind.i64 0] [(0, DOpd.c (PV.int IntKind.i64 1))], g := none }, { dst := some 14, op := DOp.mv (DOpd.t 184), g := none }]).seq (((DCode.reg [{ dst := some 185, op := DOp.mv (DOpd.t 10), g := none }, { dst := some 15, op := DOp.mv (DOpd.t 185), g := none }]).seq (DCode.block 6 (((DCode.reg [{ dst := some 186, op := DOp.mv (DOpd.t 15), g := none }, { dst := some 187, op := DOp.bin BinOp.neq (DOpd.t 186) (DOpd.c (PV.int IntKind.i64 0)), g := none }]).seq (DCode.cond (DOpd.t 187) DCode.skip (DCode.exit 6))).seq (DCode.block 7 ((DCode.reg [{ dst := some 188, op := DOp.mv (DOpd.t 14), g := none }, { dst := some 189, op := DOp.bsl 1 1 [PV.int IntKind.i64 0] [(0, DOpd.c (PV.int IntKind.i64 10))], g := none }, { dst := some 190, op := DOp.call 83 [DOpd.t 188, DOpd.t 189], g := none }, { dst := some 14, op := DOp.mv (DOpd.t 190), g := none }]).seq ((DCode.reg [{ dst := some 191, op := DOp.mv (DOpd.t 15), g := none }, { dst := some 192, op := DOp.bin BinOp.gtr (DOpd.t 191) (DOpd.c (PV.int IntKind.i64 0)), g := none }]).seq (DCode.cond (DOpd.t 192) (DCode.reg [{ dst := some 193, op := DOp.mv (DOpd.t 15), g := none }, { dst := some 194, op := DOp.bin BinOp.sub (DOpd.t 193) (DOpd.c (PV.int IntKind.i64 1)), g := none }, { dst := some 15, op := DOp.mv (DOpd.t 194), g := none }]) (DCode.reg [{ dst := some 195, op := DOp.mv (DOpd.t 15), g := none }, { dst := some 196, op := DOp.bin BinOp.add (DOpd.t 195) (DOpd.c (PV.int IntKind.i64 1)), g := none }, { dst := some 15, op := DOp.mv (DOpd.t 196), g := none }])))))).loop)).seq (((DCode.reg [{ dst := some 197, op := DOp.mv (DOpd.t 10), g := none }, { dst := some 198, op := DOp.bin BinOp.geq (DOpd.t 197) (DOpd.c (PV.int IntKind.i64 0)), g := none }]).seq (DCode.cond (DOpd.t 198) ((DCode.reg [{ dst := some 199, op := DOp.mv (DOpd.t 6), g := none }, { dst := some 200, op := DOp.mv (DOpd.t 12), g := none }, { dst := some 201, op := DOp.mv (DOpd.t 14), g := none }, { dst := some 202, op := DOp.call 83 [DOpd.t 200, DOpd.t 201], g := none }, { dst := some 203, op := DOp.bsl 1 1 [PV.int IntKind.i64 0] [(0, DOpd.c (PV.int IntKind.i64 1))], g := none }, { dst := some 204, op := DOp.call 76 [DOpd.t 199, DOpd.t 202, DOpd.t 203], g := none }, { dst := none, op := DOp.st 3 (DOpd.t 2) (DOpd.t 204), g := none }, { dst := some 3, op := DOp.mv (DOpd.c (PV.int IntKind.i64 0)), g := none }]).seq DCode.ret) DCode.skip)).seq ((DCode.reg [{ dst := some 205, op := DOp.mv (DOpd.t 6), g := none }, { dst := some 206, op := DOp.mv (DOpd.t 12), g := none }, { dst := some 207, op := DOp.mv (DOpd.t 14), g := none }, { dst := some 208, op := DOp.call 76 [DOpd.t 205, DOpd.t 206, DOpd.t 207], g := none }, { dst := none, op := DOp.st 3 (DOpd.t 2) (DOpd.t 208), g := none }, { dst := some 3, op := DOp.mv (DOpd.c (PV.int IntKind.i64 0)), g := none }]).seq DCode.ret))))))))))))))))))) }, by kernel_rfl⟩
noncomputable def c_sclone : { d : DFn // compF Tryd.prog 52 = some d } := ⟨{ nt := 5, res := [DRes.t 2], code := (DCode.reg [{ dst := some 2, op := DOp.mv (DOpd.c (PV.str [])), g := none }]).seq ((DCode.reg [{ dst := some 3, op := DOp.mv (DOpd.t 0), g := none }, { dst := some 4, op := DOp.call 84 [DOpd.t 3], g := none }, { dst := some 2, op := DOp.mv (DOpd.t 4), g := none }]).seq DCode.ret) }, by kernel_rfl⟩
noncomputable def c_vcat : { d : DFn // compF Tryd.prog 25 = some d } := ⟨{ nt := 6, res := [DRes.c (some 3) 2], code := (DCode.reg [{ dst := some 2, op := DOp.alloc [PV.int IntKind.i64 0, PV.str [], PV.str []], g := none }]).seq ((DCode.reg [{ dst := some 3, op := DOp.mv (DOpd.t 0), g := none }, { dst := some 4, op := DOp.call 52 [DOpd.t 3], g := none }, { dst := some 5, op := DOp.build [PV.int IntKind.i64 0, PV.str [], PV.str []] [(0, 1, DOpd.c (PV.int IntKind.i64 2)), (2, 1, DOpd.t 4)], g := none }, { dst := none, op := DOp.st 3 (DOpd.t 2) (DOpd.t 5), g := none }]).seq DCode.ret) }, by kernel_rfl⟩
noncomputable def c_vof : { d : DFn // compF Tryd.prog 13 = some d } := ⟨{ nt := 6, res := [DRes.c (some 3) 2], code := (DCode.reg [{ dst := some 1, op := DOp.box 3 (DOpd.t 0), g := none }, { dst := some 2, op := DOp.alloc [PV.int IntKind.i64 0, PV.str [], PV.str []], g := none }]).seq ((DCode.reg [{ dst := some 3, op := DOp.ld (some 3) (DOpd.t 1), g := none }, { dst := some 4, op := DOp.call 20 [DOpd.t 3], g := none }, { dst := some 5, op := DOp.build [PV.int IntKind.i64 0, PV.str [], PV.str []] [(0, 1, DOpd.c (PV.int IntKind.i64 1)), (1, 1, DOpd.t 4)], g := none }, { dst := none, op := DOp.st 3 (DOpd.t 2) (DOpd.t 5), g := none }]).seq DCode.ret) }, by kernel_rfl⟩
noncomputable def c_vtext : { d : DFn // compF Tryd.prog 16 = some d } := ⟨{ nt := 20, res := [DRes.t 2], code := (DCode.reg [{ dst := some 1, op := DOp.box 3 (DOpd.t 0), g := none }, { dst := some 2, op := DOp.mv (DOpd.c (PV.str [])), g := none }]).seq ((DCode.block 0 ((DCode.reg [{ dst := some 4, op := DOp.ld (some 3) (DOpd.t 1), g := none }, { dst := some 5, op := DOp.call 15 [DOpd.t 4], g := none }, { dst := some 6, op := DOp.un UnOp.not (DOpd.t 5), g := none }, { dst := some 3, op := DOp.mv (DOpd.t 6), g := none }]).seq (DCode.cond (DOpd.t 3) ((DCode.reg [{ dst := some 2, op := DOp.mv (DOpd.c (PV.str [33])), g := none }]).seq DCode.ret) ((DCode.reg [{ dst := some 8, op := DOp.faddr 0 (DOpd.t 1), g := none }, { dst := some 9, op := DOp.ld none (DOpd.t 8), g := none }, { dst := some 10, op := DOp.bin BinOp.eql (DOpd.t 9) (DOpd.c (PV.int IntKind.i64 0)), g := none }, { dst := some 7, op := DOp.mv (DOpd.t 10), g := none }]).seq (DCode.cond (DOpd.t 7) ((DCode.reg [{ dst := some 2, op := DOp.mv (DOpd.c (PV.str [63])), g := none }]).seq DCode.ret) ((DCode.reg [{ dst := some 12, op := DOp.faddr 0 (DOpd.t 1), g := none }, { dst := some 13, op := DOp.ld none (DOpd.t 12), g := none }, { dst := some 14, op := DOp.bin BinOp.eql (DOpd.t 13) (DOpd.c (PV.int IntKind.i64 2)), g := none }, { dst := some 11, op := DOp.mv (DOpd.t 14), g := none }]).seq (DCode.cond (DOpd.t 11) ((DCode.reg [{ dst := some 15, op := DOp.faddr 2 (DOpd.t 1), g := none }, { dst := some 16, op := DOp.ld none (DOpd.t 15), g := none }, { dst := some 17, op := DOp.bin BinOp.add (DOpd.c (PV.str [58])) (DOpd.t 16), g := none }, { dst := some 2, op := DOp.mv (DOpd.t 17), g := none }]).seq DCode.ret) DCode.skip))))))).seq ((DCode.reg [{ dst := some 18, op := DOp.faddr 1 (DOpd.t 1), g := none }, { dst := some 19, op := DOp.ld none (DOpd.t 18), g := none }, { dst := some 2, op := DOp.mv (DOpd.t 19), g := none }]).seq DCode.ret)) }, by kernel_rfl⟩
noncomputable def c_vparse : { d : DFn // compF Tryd.prog 14 = some d } := ⟨{ nt := 41, res := [DRes.c (some 3) 2, DRes.t 3], code := (DCode.reg [{ dst := some 2, op := DOp.alloc [PV.int IntKind.i64 0, PV.str [], PV.str []], g := none }, { dst := some 3, op := DOp.mv (DOpd.c (PV.int IntKind.i64 0)), g := none }]).seq (((DCode.reg [{ dst := some 8, op := DOp.mv (DOpd.t 0), g := none }, { dst := some 9, op := DOp.bin BinOp.eql (DOpd.t 8) (DOpd.c (PV.str [63])), g := none }]).seq (DCode.cond (DOpd.t 9) ((DCode.reg [{ dst := some 10, op := DOp.build [PV.int IntKind.i64 0, PV.str [], PV.str []] [], g := none }, { dst := none, op := DOp.st 3 (DOpd.t 2) (DOpd.t 10), g := none }, { dst := some 3, op := DOp.mv (DOpd.c (PV.int IntKind.i64 0)), g := none }]).seq DCode.ret) DCode.skip)).seq (((DCode.reg [{ dst := some 12, op := DOp.mv (DOpd.t 0), g := none }, { dst := some 13, op := DOp.call 40 [DOpd.t 12, DOpd.c (PV.str [58])], g := none }, { dst := some 11, op := DOp.mv (DOpd.t 13), g := none }, { dst := some 14, op := DOp.ext (DOpd.t 11) 0, g := none }, { dst := some 15, op := DOp.ext (DOpd.t 11) 1, g := none }, { dst := some 4, op := DOp.mv (DOpd.t 14), g := none }, { dst := some 5, op := DOp.mv (DOpd.t 15), g := none }]).seq ((DCode.reg [{ dst := some 16, op := DOp.mv (DOpd.t 5), g := none }]).seq (DCode.cond (DOpd.t 16) (((DCode.reg [{ dst := some 17, op := DOp.mv (DOpd.t 4), g := none }, { dst := some 18, op := DOp.len true (DOpd.t 17), g := none }, { dst := some 19, op := DOp.bin BinOp.gtr (DOpd.t 18) (DOpd.c (PV.int IntKind.i64 60)), g := none }]).seq (DCode.cond (DOpd.t 19) ((DCode.reg [{ dst := some 20, op := DOp.build [PV.int IntKind.i64 0, PV.str [], PV.str []] [], g := none }, { dst := none, op := DOp.st 3 (DOpd.t 2) (DOpd.t 20), g := none }, { dst := some 3, op := DOp.mv (DOpd.c (PV.int IntKind.i64 3)), g := none }]).seq DCode.ret) DCode.skip)).seq ((DCode.reg [{ dst := some 21, op := DOp.mv (DOpd.t 4), g := none }, { dst := some 22, op := DOp.call 25 [DOpd.t 21], g := none }, { dst := none, op := DOp.st 3 (DOpd.t 2) (DOpd.t 22), g := none }, { dst := some 3, op := DOp.mv (DOpd.c (PV.int IntKind.i64 0)), g := none }]).seq DCode.ret)) DCode.skip))).seq ((DCode.reg [{ dst := some 24, op := DOp.mv (DOpd.t 0), g := none }, { dst := some 25, op := DOp.call 12 [DOpd.t 24], g := none }, { dst := some 23, op := DOp.mv (DOpd.t 25), g := none }, { dst := some 26, op := DOp.ext (DOpd.t 23) 0, g := none }, { dst := some 27, op := DOp.ext (DOpd.t 23) 1, g := none }, { dst := some 6, op := DOp.alloc [PV.bool false, PV.sl (some true) 0 [] [], PV.sl (some true) 0 [] []], g := none }, { dst := none, op := DOp.st 3 (DOpd.t 6) (DOpd.t 26), g := none }, { dst := some 7, op := DOp.mv (DOpd.t 27), g := none }]).seq (((DCode.reg [{ dst := some 28, op := DOp.mv (DOpd.t 7), g := none }, { dst := some 29, op := DOp.bin BinOp.neq (DOpd.t 28) (DOpd.c (PV.int IntKind.i64 0)), g := none }]).seq (DCode.cond (DOpd.t 29) (DCode.reg [{ dst := some 31, op := DOp.mv (DOpd.t 0), g := none }, { dst := some 32, op := DOp.call 44 [DOpd.t 31], g := none }, { dst := some 30, op := DOp.mv (DOpd.t 32), g := none }, { dst := some 33, op := DOp.ext (DOpd.t 30) 0, g := none }, { dst := some 34, op := DOp.ext (DOpd.t 30) 1, g := none }, { dst := none, op := DOp.st 3 (DOpd.t 6) (DOpd.t 33), g := none }, { dst := some 7, op := DOp.mv (DOpd.t 34), g := none }]) DCode.skip)).seq (((DCode.reg [{ dst := some 35, op := DOp.mv (DOpd.t 7), g := none }, { dst := some 36, op := DOp.bin BinOp.neq (DOpd.t 35) (DOpd.c (PV.int IntKind.i64 0)), g := none }]).seq (DCode.cond (DOpd.t 36) ((DCode.reg [{ dst := some 37, op := DOp.build [PV.int IntKind.i64 0, PV.str [], PV.str []] [], g := none }, { dst := some 38, op := DOp.mv (DOpd.t 7), g := none }, { dst := none, op := DOp.st 3 (DOpd.t 2) (DOpd.t 37), g := none }, { dst := some 3, op := DOp.mv (DOpd.t 38), g := none }]).seq DCode.ret) DCode.skip)).seq ((DCode.reg [{ dst := some 39, op := DOp.ld (some 3) (DOpd.t 6), g := none }, { dst := some 40, op := DOp.call 13 [DOpd.t 39], g := none }, { dst := none, op := DOp.st 3 (DOpd.t 2) (DOpd.t 40), g := none }, { dst := some 3, op := DOp.mv (DOpd.c (PV.int IntKind.i64 0)), g := none }]).seq DCode.ret)))))) }, by kernel_rfl⟩
noncomputable def c_alive12 : { d : DFn // compF Tryd.prog 11 = some d } := ⟨{ nt := 39, res := [DRes.t 0], code := (DCode.reg [{ dst := some 0, op := DOp.mv (DOpd.c (PV.bool false)), g := none }]).seq ((DCode.reg [{ dst := some 6, op := DOp.call 14 [DOpd.c (PV.str [49, 46, 53])], g := none }, { dst := some 5, op := DOp.mv (DOpd.t 6), g := none }, { dst := some 7, op := DOp.ext (DOpd.t 5) 0, g := none }, { dst := some 8, op := DOp.ext (DOpd.t 5) 1, g := none }, { dst := some 1, op := DOp.alloc [PV.int IntKind.i64 0, PV.str [], PV.str []], g := none }, { dst := none, op := DOp.st 3 (DOpd.t 1) (DOpd.t 7), g := none }, { dst := some 2, op := DOp.mv (DOpd.t 8), g := none }]).seq ((DCode.reg [{ dst := some 10, op := DOp.call 14 [DOpd.c (PV.str [58, 114, 101, 100])], g := none }, { dst := some 9, op := DOp.mv (DOpd.t 10), g := none }, { dst := some 11, op := DOp.ext (DOpd.t 9) 0, g := none }, { dst := some 12, op := DOp.ext (DOpd.t 9) 1, g := none }, { dst := some 3, op := DOp.alloc [PV.int IntKind.i64 0, PV.str [], PV.str []], g := none }, { dst := none, op := DOp.st 3 (DOpd.t 3) (DOpd.t 11), g := none }, { dst := some 4, op := DOp.mv (DOpd.t 12), g := none }]).seq ((DCode.draw [({ dst := some 13, op := DOp.mv (DOpd.t 2), g := none }, [2], []), ({ dst := some 14, op := DOp.bin BinOp.eql (DOpd.t 13) (DOpd.c (PV.int IntKind.i64 0)), g := none }, [13], []), ({ dst := some 15, op := DOp.mv (DOpd.t 14), g := none }, [14], []), ({ dst := some 16, op := DOp.ld (some 3) (DOpd.t 1), g := some (15, true) }, [1, 15], []), ({ dst := some 17, op := DOp.build [PV.int IntKind.i64 0, PV.str [], PV.str []] [(0, 1, DOpd.c (PV.int IntKind.i64 1)), (1, 1, DOpd.c (PV.str [51, 47, 50]))], g := some (15, true) }, [15], []), ({ dst := some 18, op := DOp.eqs false [EK.int, EK.str, EK.str] (DOpd.t 16) (DOpd.t 17), g := some (15, true) }, [16, 17, 15], []), ({ dst := some 19, op := DOp.pick (DOpd.t 15) (DOpd.t 18) (DOpd.c (PV.bool false)), g := none }, [15, 18], []), ({ dst := some 20, op := DOp.mv (DOpd.t 19), g := none }, [19], []), ({ dst := some 21, op := DOp.mv (DOpd.t 4), g := some (20, true) }, [4, 20], []), ({ dst := some 22, op := DOp.bin BinOp.eql (DOpd.t 21) (DOpd.c (PV.int IntKind.i64 0)), g := some (20, true) }, [21, 20], []), ({ dst := some 23, op := DOp.pick (DOpd.t 20) (DOpd.t 22) (DOpd.c (PV.bool false)), g := none }, [20, 22], []), ({ dst := some 24, op := DOp.mv (DOpd.t 23), g := none }, [23], []), ({ dst := some 25, op := DOp.ld (some 3) (DOpd.t 3), g := some (24, true) }, [3, 24], []), ({ dst := some 26, op := DOp.call 25 [DOpd.c (PV.str [114, 101, 100])], g := some (24, true) }, [24], []), ({ dst := some 27, op := DOp.eqs false [EK.int, EK.str, EK.str] (DOpd.t 25) (DOpd.t 26), g := some (24, true) }, [25, 26, 24], []), ({ dst := some 28, op := DOp.pick (DOpd.t 24) (DOpd.t 27) (DOpd.c (PV.bool false)), g := none }, [24, 27], []), ({ dst := some 29, op := DOp.mv (DOpd.t 28), g := none }, [28], []), ({ dst := some 30, op := DOp.ld (some 3) (DOpd.t 1), g := some (29, true) }, [1, 29], []), ({ dst := some 31, op := DOp.call 16 [DOpd.t 30], g := some (29, true) }, [30, 29], []), ({ dst := some 32, op := DOp.bin BinOp.eql (DOpd.t 31) (DOpd.c (PV.str [51, 47, 50])), g := some (29, true) }, [31, 29], []), ({ dst := some 33, op := DOp.pick (DOpd.t 29) (DOpd.t 32) (DOpd.c (PV.bool false)), g := none }, [29, 32], []), ({ dst := some 34, op := DOp.mv (DOpd.t 33), g := none }, [33], []), ({ dst := some 35, op := DOp.build [PV.int IntKind.i64 0, PV.str [], PV.str []] [], g := some (34, true) }, [34], []), ({ dst := some 36, op := DOp.call 16 [DOpd.t 35], g := some (34, true) }, [35, 34], []), ({ dst := some 37, op := DOp.bin BinOp.eql (DOpd.t 36) (DOpd.c (PV.str [63])), g := some (34, true) }, [36, 34], []), ({ dst := some 38, op := DOp.pick (DOpd.t 34) (DOpd.t 37) (DOpd.c (PV.bool false)), g := none }, [34, 37], []), ({ dst := some 0, op := DOp.mv (DOpd.t 38), g := none }, [38], [])]).seq DCode.ret))) }, by kernel_rfl⟩

end Go.Dl
set_option linter.unusedVariables false
set_option linter.unusedSimpArgs false
set_option maxRecDepth 1000000
namespace Go.Dl
open Go.Proofs

theorem t_sltrimp (s : List UInt8) (c : UInt8) (hs : s.length ≤ 1000000) : PCall Tryd.prog 119 [.str s, .str [c]] (· = .str (cutPre c s).1) := by
  refine pcall_vcz c_sltrimp (by simp [c_sltrimp]) fun x K hK => ?_
  simp [c_sltrimp]
  refine oks_callz [] .wide [.str s, .str [c]] (t_hasp s c hs) (by simp) (by simp; rfl) (by simp) ?_
  rintro _ rfl
  refine oks_vc .wide ?_
  cases s with
  | nil =>
    simp [hasPre]
    exact hK _ _ rfl (by simp [cutPre])
  | cons y r =>
    by_cases e : y = c
    · simp [hasPre, e]
      exact hK _ _ rfl (by simp [cutPre, e])
    · simp [hasPre, e]
      exact hK _ _ rfl (by simp [cutPre, e])
theorem t_strimp (s : List UInt8) (c : UInt8) (hs : s.length ≤ 1000000) : PCall Tryd.prog 107 [.str s, .str [c]] (· = .str (cutPre c s).1) := by
  refine pcall_vcz c_strimp (by simp [c_strimp]) fun x K hK => ?_
  simp [c_strimp]
  refine oks_callz [] .wide [.str s, .str [c]] (t_sltrimp s c hs) (by simp) (by simp; rfl) (by simp) ?_
  rintro _ rfl
  refine oks_vc .wide ?_
  simp
  exact hK _ _ rfl (by simp)

/-- a text without its sign, and whether that is one of numbers below 0 -/
def dsg (s : List UInt8) : List UInt8 × Bool := if (cutPre 45 s).2 then ((cutPre 45 s).1, true) else ((cutPre 43 s).1, false)
theorem dsg_len (s : List UInt8) : (dsg s).1.length ≤ s.length := by
  unfold dsg; split <;> exact cutPre_len _ _
theorem t_dsign (s : List UInt8) (hs : s.length ≤ 1000000) : PCall Tryd.prog 92 [.str s] (· = .tup [.str (dsg s).1, .bool (dsg s).2]) := by
  refine pcall_vcz c_dsign (by simp [c_dsign]) fun x K hK => ?_
  simp [c_dsign]
  refine oks_callz [] .wide [.str s, .str [45]] (t_cutp s 45 hs) (by simp) (by simp; rfl) (by simp) ?_
  rintro _ rfl
  refine oks_vc .wide ?_
  cases h : (cutPre 45 s).2 with
  | true =>
    simp [cutPreP, h]
    exact hK _ _ rfl (by simp [dsg, h])
  | false =>
    simp [cutPreP, h]
    refine oks_callz [] .wide [.str s, .str [43]] (t_strimp s 43 hs) (by simp) (by simp; rfl) (by simp) ?_
    rintro _ rfl
    refine oks_vc .wide ?_
    simp
    exact hK _ _ rfl (by simp [dsg, h])

theorem t_digits (s : List UInt8) (hs : s.length ≤ 1000000) : PCall Tryd.prog 93 [.str s] (· = .bool (s.all isDig)) := by
  refine pcall_vcz c_digits (by simp [c_digits]) fun x K hK => ?_
  simp [c_digits]
  refine vc_loop .wide (fun i : Nat => ⟨20, [(6, .p (.int .i64 (i : Int))), (5, .p (.int .i64 (s.length : Int))), (0, .p (.str s))], []⟩)
    (fun i => i ≤ s.length ∧ (s.take i).all isDig = true) (fun i => s.length - i) 0 ⟨by omega, by simp⟩ ?_ ?_
  · exact sub_iff (by simp)
  · rintro i ⟨h1, h2⟩ Q g1 g2
    by_cases h0 : i = s.length
    · subst h0
      rw [List.take_length] at h2
      simp
      refine g2 _ _ (by simp) ?_
      simp
      exact hK _ _ rfl (by simp [h2])
    · have hlt : i < s.length := by omega
      have hw : IntKind.i64.wrap ((i : Int) + 1) = (i : Int) + 1 := wrap_i64 (by omega)
      have hall : ∀ b, isDig s[i] = b → (b = false → s.all isDig = false) := by
        rintro b e rfl
        rw [List.all_eq_false]
        exact ⟨s[i], List.getElem_mem hlt, by simp [e]⟩
      by_cases hd : isDig s[i] = true
      · have hd' := hd
        simp only [isDig, Bool.and_eq_true, decide_eq_true_eq] at hd'
        simp [hlt, hw, show ¬ ((s[i].toNat : Int) < 48) by omega, show ¬ ((57 : Int) < s[i].toNat) by omega]
        refine g1 _ (i + 1) ⟨by omega, ?_⟩ (by omega) (sub_iff (by simp))
        rw [← List.take_append_getElem hlt, List.all_append, h2]
        simp [hd]
      · have no : s.all isDig = false := hall _ rfl (by simpa using hd)
        have fin : K (.bool false) := hK _ _ rfl (by simp [no])
        have hd' := hd
        simp only [isDig, Bool.and_eq_true, decide_eq_true_eq, not_and, Nat.not_le] at hd'
        by_cases h48 : s[i].toNat < 48
        · simp [hlt, hw, show ((s[i].toNat : Int) < 48) by omega]
          refine g2 _ _ (by simp) ?_
          simp
          exact fin
        · simp [hlt, hw, show ¬ ((s[i].toNat : Int) < 48) by omega, show ((57 : Int) < s[i].toNat) by omega]
          refine g2 _ _ (by simp) ?_
          simp
          exact fin

/-- a small number's digits -/
def dsml (s : List UInt8) : Nat × Bool := if 3 < (s.dropWhile (· == 48)).length then (0, false) else (decval (s.dropWhile (· == 48)), decide (decval (s.dropWhile (· == 48)) ≤ 400))
theorem t_small (s : List UInt8) (hs : s.length ≤ 1000000) (hd : s.all isDig = true) : PCall Tryd.prog 70 [.str s] (· = .tup [.int .i64 ((dsml s).1 : Int), .bool (dsml s).2]) := by
  refine pcall_vcz c_small (by simp [c_small]) fun x K hK => ?_
  obtain ⟨t, ht⟩ : ∃ t, t = s.dropWhile (· == 48) := ⟨_, rfl⟩
  have hdt : t.all isDig = true := by
    rw [ht]
    rw [List.all_eq_true] at hd ⊢
    exact fun c hc => hd c ((List.dropWhile_sublist _).subset hc)
  simp [c_small]
  refine oks_callz [] .wide [.str s, .str [48]] (t_tl s 48 (by decide) hs) (by simp) (by simp; rfl) (by simp) ?_
  rintro _ rfl
  refine oks_vc .wide ?_
  rw [← ht]
  by_cases hl : 3 < t.length
  · simp [show (3 : Int) < t.length by omega]
    exact hK _ _ rfl (by simp [dsml, ← ht, hl])
  · simp [show ¬ (3 : Int) < t.length by omega]
    refine vc_loop .wide (fun i : Nat => ⟨28, [(13, .p (.int .i64 (i : Int))), (12, .p (.int .i64 (t.length : Int))), (0, .p (.str t)), (4, .p (.int .i64 (decval (t.take i) : Int)))], []⟩)
      (fun i => i ≤ t.length) (fun i => t.length - i) 0 (by omega) ?_ ?_
    · exact sub_iff (by simp [decval])
    · intro i h1 Q g1 g2
      by_cases h0 : i = t.length
      · subst h0
        simp
        refine g2 _ _ (by simp) ?_
        simp
        refine hK _ _ rfl ?_
        simp [dsml, ← ht, hl]
        omega
      · have hlt : i < t.length := by omega
        have hw : IntKind.i64.wrap ((i : Int) + 1) = (i : Int) + 1 := wrap_i64 (by omega)
        have hb : isDig t[i] = true := by
          rw [List.all_eq_true] at hdt
          exact hdt _ (List.getElem_mem hlt)
        simp only [isDig, Bool.and_eq_true, decide_eq_true_eq] at hb
        have hv : decval (t.take i) < 10 ^ (t.take i).length := decval_lt _ (by
          rw [List.all_eq_true] at hdt ⊢
          exact fun c hc => hdt c (List.mem_of_mem_take hc))
        have hv2 : decval (t.take i) < 1000 := Nat.lt_of_lt_of_le hv (show 10 ^ (t.take i).length ≤ 10 ^ 3 from Nat.pow_le_pow_right (show 10 > 0 by decide) (show (t.take i).length ≤ 3 by rw [List.length_take]; omega))
        have e1 : IntKind.i64.wrap (10 * (decval (t.take i) : Int)) = 10 * (decval (t.take i) : Int) := wrap_i64 (by omega)
        have e2 : IntKind.i64.wrap (IntKind.u8.wrap ((t[i].toNat : Int) - 48)) = ((t[i].toNat - 48 : Nat) : Int) := by
          rw [wrap_u8', wrap_i64 (by omega)]; omega
        have e3 : IntKind.i64.wrap (10 * (decval (t.take i) : Int) + ((t[i].toNat - 48 : Nat) : Int)) = (decval (t.take (i + 1)) : Int) := by
          rw [wrap_i64 (by omega), ← List.take_append_getElem hlt, decval_app]; omega
        simp [hlt, e1, e2, e3, hw]
        exact g1 _ (i + 1) (by omega) (by omega) (sub_iff (by simp))
end Go.Dl
set_option linter.unusedVariables false
set_option linter.unusedSimpArgs false
namespace Go.Proofs
set_option maxHeartbeats 4000000 in
set_option maxRecDepth 100000 in
theorem walk_Len64 (x : Int) (w : World) (h0 : 0 ≤ x) (h1 : x ≤ 65535) :
    Calls Tryd.prog 123 #[.int .u64 x] w fun e w' => e = .returned (.int .i64 (Lib.bitLen x.toNat)) ∧ w' = w := by
  have n1 : ¬ x ≥ 4294967296 := by omega
  have n2 : ¬ x ≥ 65536 := by omega
  by_cases h : x ≥ 256
  · go_enter Tryd.func123, Tryd.ntmps123
    go_wp2
    all_goals (go_ret; refine ⟨congrArg Ending.returned (congrArg (Value.int IntKind.i64) ?_), rfl⟩)
    rw [Lib.len8_of (x / 256 % 256) (by omega) (by omega)]
    have e : (x / 256 % 256).toNat = x.toNat / 256 := by omega
    have l := Lib.bitLen_le8' (x / 256 % 256) (by omega) (by omega)
    have s := Lib.bitLen_shift8 x.toNat (by omega) (by omega)
    rw [e] at l ⊢
    omega
  · go_enter Tryd.func123, Tryd.ntmps123
    go_wp2
    all_goals (go_ret; refine ⟨congrArg Ending.returned (congrArg (Value.int IntKind.i64) ?_), rfl⟩)
    rw [Lib.len8_of (x % 256) (by omega) (by omega)]
    have e : (x % 256).toNat = x.toNat := by omega
    have l := Lib.bitLen_le8' (x % 256) (by omega) (by omega)
    rw [e] at l ⊢
    omega
end Go.Proofs
set_option maxRecDepth 1000000
namespace Go.Dl
open Go.Proofs

theorem t_len64 (x : Nat) (hx : x < 65536) : PCall Tryd.prog 123 [.int .u64 (U x)] (· = .int .i64 (Lib.bitLen x : Int)) := by
  intro w S vs hS hl hrel
  match vs, hl with
  | [v1], _ =>
    have h1 := hrel 0 _ v1 rfl rfl
    cases h1
    refine (walk_Len64 (U x) w (by unfold U; omega) (by unfold U; omega)).mono ?_
    rintro e w' ⟨rfl, rfl⟩
    exact ⟨_, _, rfl, rfl, Fr.refl _ _, .int _ _⟩
theorem t_blen (x : Nat) (hx : x < 65536) : PCall Tryd.prog 112 [.int .u64 (U x)] (· = .int .i64 (Lib.bitLen x : Int)) := by
  refine pcall_vcz c_blen (by simp [c_blen]) fun y K hK => ?_
  simp [c_blen]
  refine oks_callz [] .wide [.int .u64 (U x)] (t_len64 x hx) (by simp) (by simp; rfl) (by simp) ?_
  rintro _ rfl
  refine oks_vc .wide ?_
  simp
  exact hK _ _ rfl (by simp)

/-- the length in bits -/
def bitsN (n : Nat) : Nat := if n = 0 then 0 else 32 * ((limbs n).length - 1) + Lib.bitLen ((limbs n)[(limbs n).length - 1]?.getD 0)
theorem t_nbits (n : Nat) (hn : (limbs n).length ≤ 1000000) : PCall Tryd.prog 111 [encNat n] (· = .int .i64 (bitsN n : Int)) := by
  refine pcall_vcz c_nbits (by simp [c_nbits]) fun y K hK => ?_
  simp [c_nbits, encNat]
  refine oks_callz [] .wide [encNat n] (t_zero n) (by simp) (by simp; rfl) (by simp [encNat]) ?_
  rintro _ rfl
  refine oks_vc .wide ?_
  by_cases h0 : n = 0
  · simp [h0]
    exact hK _ _ rfl (by simp [bitsN, h0])
  · obtain ⟨k, hk⟩ : ∃ k, (limbs n).length = k + 1 := by
      cases h : limbs n with
      | nil => exact (h0 (by rw [← val_limbs n, h]; rfl)).elim
      | cons d q => exact ⟨q.length, rfl⟩
    have hlt : k < (limbs n).length := by omega
    have hd : (limbs n)[k] < 4294967296 := limbs_ok n _ (List.getElem_mem hlt)
    have hbl := Lib.bitLen_le (limbs n)[k] 32 (by decide) (by omega)
    have w1 : IntKind.i64.wrap (k : Int) = (k : Int) := wrap_i64 (by omega)
    have w2 : IntKind.i64.wrap (32 * (k : Int)) = 32 * (k : Int) := wrap_i64 (by omega)
    have w3 : IntKind.i64.wrap (32 * (k : Int) + (Lib.bitLen (limbs n)[k] : Int)) = 32 * (k : Int) + (Lib.bitLen (limbs n)[k] : Int) := wrap_i64 (by omega)
    simp [h0, hk, w1, w2, hlt, show (k : Int) < (k : Int) + 1 by omega]
    refine oks_callz [] .wide [.int .u32 (U (limbs n)[k])] (t_len32 (limbs n)[k] hd) (by simp) (by simp; rfl) (by simp) ?_
    rintro _ rfl
    refine oks_vc .wide ?_
    simp [w3]
    exact hK _ _ rfl (by simp [bitsN, h0, hk, hlt])
end Go.Dl
set_option linter.unusedVariables false
set_option linter.unusedSimpArgs false
set_option maxRecDepth 1000000
namespace Go.Dl
open Go.Proofs

theorem pow10_len (m : Nat) : 8 * ((limbs (10 ^ m)).length - 1) ≤ m := by
  cases h : (limbs (10 ^ m)).length with
  | zero => omega
  | succ k =>
    have h1 := limbs_ge _ k h
    have h2 : 10 ^ m ≤ 16 ^ m := Nat.pow_le_pow_left (by decide) _
    have h3 : (4294967296 : Nat) ^ k = 2 ^ (32 * k) := by rw [Nat.pow_mul]
    have h4 : (16 : Nat) ^ m = 2 ^ (4 * m) := by rw [Nat.pow_mul]
    rw [h3] at h1
    rw [h4] at h2
    have := (Nat.pow_le_pow_iff_right (by decide : 1 < 2)).1 (Nat.le_trans h1 h2)
    omega
theorem bitsN_pow (m : Nat) : bitsN (10 ^ m) ≤ 4 * m + 32 := by
  have h0 : 10 ^ m ≠ 0 := Nat.pos_iff_ne_zero.1 (Nat.pow_pos (by decide))
  have h1 := pow10_len m
  unfold bitsN
  rw [if_neg h0]
  have hb : (limbs (10 ^ m))[(limbs (10 ^ m)).length - 1]?.getD 0 < 4294967296 := by
    cases h : (limbs (10 ^ m))[(limbs (10 ^ m)).length - 1]? with
    | none => simp
    | some d => exact limbs_ok _ d (List.mem_of_getElem? h)
  have hbl := Lib.bitLen_le _ 32 (by decide) (show _ < 2 ^ 32 from hb)
  omega
theorem limbs10 : limbs 10 = [10] := by
  rw [limbs]; simp; rw [limbs]; simp
theorem bitsN_10 : bitsN 10 = 4 := by
  simp [bitsN, limbs10]; decide

theorem ev_shri (e j : Nat) (hj : j ≤ 63) : evBin .shr (.int .i64 (e : Int)) (.int .i64 (j : Int)) = some (.int .i64 ((e / 2 ^ j : Nat) : Int)) := by
  have h1 : ¬ ((j : Int) < 0) := by omega
  have h2 : min (j : Int).toNat IntKind.i64.bits = j := by
    rw [Int.toNat_natCast]; exact Nat.min_eq_left (by simp [IntKind.bits]; omega)
  simp only [evBin, h1, if_false, h2]
  rw [Int.fdiv_eq_ediv_of_nonneg _ (by exact Int.le_of_lt (Int.pow_pos (by decide)))]
  simp
theorem and_one (a : Nat) (ha : a < 9223372036854775808) : IntKind.i64.wrap ((BitVec.ofInt 64 (a : Int) &&& BitVec.ofInt 64 1).toNat : Int) = ((a % 2 : Nat) : Int) := by
  have : (BitVec.ofInt 64 (a : Int) &&& BitVec.ofInt 64 1).toNat = a % 2 := by
    rw [BitVec.toNat_and, BitVec.toNat_ofInt, BitVec.toNat_ofInt]
    have e1 : ((a : Int) % ((2 ^ 64 : Nat) : Int)).toNat = a := by omega
    have e2 : ((1 : Int) % ((2 ^ 64 : Nat) : Int)).toNat = 1 := by decide
    rw [e1, e2, Nat.and_one_is_mod]
  rw [this, wrap_i64 (by omega)]
theorem ev_andi (a : Nat) (ha : a < 9223372036854775808) : evBin .and (.int .i64 (a : Int)) (.int .i64 1) = some (.int .i64 ((a % 2 : Nat) : Int)) := by
  simp only [evBin, if_true]
  exact congrArg (fun z => some (PV.int .i64 z)) (and_one a ha)

def pwI (e k : Nat) : St := ⟨54, [(7, .p (.int .i64 ((k : Int) - 1))), (6, .ptr 6 1 0 0), (4, .ptr 4 1 0 0), (2, .ptr 2 1 0 0), (1, .p (.int .i64 (e : Int)))],
  [(6, ⟨false, 1, .p [[.sl none 1 (enc (limbs (10 ^ (e / 2 ^ k)))) []]]⟩), (4, ⟨false, 1, .p [[.sl (some true) 0 [] []]]⟩), (2, ⟨false, 1, .p [[.sl none 1 (enc (limbs 10)) []]]⟩)]⟩

theorem t_pow10 (e : Nat) (he : e ≤ 1000) : PCall Tryd.prog 98 [encNat 10, .int .i64 (e : Int)] (· = .tup [encNat (10 ^ e), .int .i64 0]) := by
  refine pcall_vcz c_npow (by simp [c_npow]) fun y K hK => ?_
  have hlen : ∀ m, m ≤ 2000 → (limbs (10 ^ m)).length ≤ 1000000 := fun m hm => by have := pow10_len m; omega
  have l10 : (limbs 10).length ≤ 1000000 := by rw [limbs10]; decide
  have w3 : IntKind.i64.wrap (3 * (e : Int)) = 3 * (e : Int) := wrap_i64 (by omega)
  have wu : IntKind.u64.wrap (e : Int) = U e := by simp [IntKind.wrap, IntKind.bits, IntKind.signed]; unfold U; omega
  have hbl := Lib.bitLen_le e 10 (by decide) (by omega)
  have hebl : e / 2 ^ Lib.bitLen e = 0 := by
    by_cases h : e = 0
    · simp [h]
    · exact Nat.div_eq_of_lt (Lib.bitLenAux_bounds 64 e (by omega) h).2.2
  simp [c_npow, encNat, show ¬ (e : Int) < 0 by omega, show ¬ (5000 : Int) < e by omega]
  refine oks_callz [] .wide [encNat 10] (t_nbits 10 l10) (by simp) (by simp; rfl) (by simp [encNat]) ?_
  rintro _ rfl
  refine oks_vc .wide ?_
  simp [bitsN_10]
  refine oks_callz [] .wide [encNat 10] (t_nbits 10 l10) (by simp) (by simp; rfl) (by simp [encNat]) ?_
  rintro _ rfl
  refine oks_vc .wide ?_
  simp [bitsN_10, show IntKind.i64.wrap 3 = 3 from rfl, w3, show ¬ (10000 : Int) ≤ 3 * (e : Int) by omega]
  refine oks_callz [] .wide [.int .u64 (U 1)] (t_of 1 (by decide)) (by simp) (by simp; rfl) (by simp; rfl) ?_
  rintro _ rfl
  refine oks_vc .wide ?_
  simp [encNat, wu]
  refine oks_callz [] .wide [.int .u64 (U e)] (t_blen e (by omega)) (by simp) (by simp; rfl) (by simp) ?_
  rintro _ rfl
  refine oks_vc .wide ?_
  have wb : IntKind.i64.wrap ((Lib.bitLen e : Int) - 1) = (Lib.bitLen e : Int) - 1 := wrap_i64 (by omega)
  simp [wb]
  refine vc_loop .wide (pwI e) (fun k => k ≤ 10) (fun k => k) (Lib.bitLen e) hbl ?_ ?_
  · exact sub_iff (by simp [pwI, hebl])
  · intro k hk Q g1 g2
    cases k with
    | zero =>
      simp [pwI]
      refine g2 _ _ (by simp) ?_
      have hb := bitsN_pow e
      simp
      refine oks_callz [] .wide [encNat (10 ^ e)] (t_nbits (10 ^ e) (hlen e (by omega))) (by simp) (by simp; rfl) (by simp [encNat]) ?_
      rintro _ rfl
      refine oks_vc .wide ?_
      simp [show ¬ (10000 : Int) < (bitsN (10 ^ e) : Int) by omega]
      exact hK _ _ rfl (by simp [encNat])
    | succ j =>
      obtain ⟨m, hm⟩ : ∃ m, m = e / 2 ^ (j + 1) := ⟨_, rfl⟩
      have hme : m ≤ 1000 := by rw [hm]; exact Nat.le_trans (Nat.div_le_self _ _) he
      obtain ⟨q, hq⟩ : ∃ q, q = e / 2 ^ j := ⟨_, rfl⟩
      have hqe : q ≤ 1000 := by rw [hq]; exact Nat.le_trans (Nat.div_le_self _ _) he
      have hj2 : q = 2 * m + q % 2 := by
        rw [hm, Nat.pow_succ, ← Nat.div_div_eq_div_mul, ← hq]; omega
      have hes := ev_shri e j (by omega)
      rw [← hq] at hes
      have hea := ev_andi q (by omega)
      have hw1 : IntKind.i64.wrap ((j : Int) - 1) = (j : Int) - 1 := wrap_i64 (by omega)
      have hw2 : IntKind.i64.wrap (j : Int) = (j : Int) := wrap_i64 (by omega)
      have sq : 10 ^ m * 10 ^ m = 10 ^ (2 * m) := by rw [← Nat.pow_add]; congr 1; omega
      simp [pwI, ← hm]
      refine oks_callz [] .wide [encNat (10 ^ m), encNat (10 ^ m)] (t_mul (10 ^ m) (10 ^ m) (hlen m (by omega)) (hlen m (by omega))) (by simp) (by simp; rfl) (by simp [encNat]) ?_
      rintro _ rfl
      refine oks_vc .wide ?_
      rw [sq]
      by_cases hb : q % 2 = 1
      · have e10 : 10 ^ (2 * m) * 10 = 10 ^ q := by rw [hj2, hb, Nat.pow_succ]
        rw [hb] at hea
        simp [encNat, hes, hea, hw2]
        refine oks_callz [] .wide [encNat (10 ^ (2 * m)), encNat 10] (t_mul (10 ^ (2 * m)) 10 (hlen (2 * m) (by omega)) l10) (by simp) (by simp; rfl) (by simp [encNat]) ?_
        rintro _ rfl
        refine oks_vc .wide ?_
        rw [e10]
        simp [encNat, hw1, hw2]
        exact g1 _ j (by omega) (by omega) (sub_iff (by simp [pwI, ← hq]))
      · have e10 : 10 ^ (2 * m) = 10 ^ q := by congr 1; omega
        rw [show q % 2 = 0 by omega] at hea
        rw [e10]
        simp [encNat, hes, hea, hw1, hw2]
        exact g1 _ j (by omega) (by omega) (sub_iff (by simp [pwI, ← hq]))

theorem t_power (e : Nat) (he : e ≤ 1000) : PCall Tryd.prog 73 [.int .i64 (e : Int)] (· = encNat (10 ^ e)) := by
  refine pcall_vcz c_power (by simp [c_power]) fun y K hK => ?_
  simp [c_power]
  refine oks_callz [] .wide [.int .u64 (U 10)] (t_of 10 (by decide)) (by simp) (by simp; rfl) (by simp; rfl) ?_
  rintro _ rfl
  refine oks_vc .wide ?_
  simp [encNat]
  refine oks_callz [] .wide [encNat 10, .int .i64 (e : Int)] (t_pow10 e he) (by simp) (by simp; rfl) (by simp [encNat]) ?_
  rintro _ rfl
  refine oks_vc .wide ?_
  simp [encNat]
  exact hK _ _ rfl (by simp [encNat])
end Go.Dl
set_option linter.unusedVariables false
set_option linter.unusedSimpArgs false
set_option maxRecDepth 1000000
namespace Go.Dl
open Go.Proofs

def isE (c : UInt8) : Bool := c.toNat == 101 || c.toNat == 69
/-- where the exponent's sign stands; the length, if there is none -/
def cutAt (s : List UInt8) : Nat := s.findIdx isE
theorem cutAt_le (s : List UInt8) : cutAt s ≤ s.length := List.findIdx_le_length
theorem cutAt_none (s : List UInt8) (h : ∀ i (hi : i < s.length), isE s[i] = false) : cutAt s = s.length := by
  unfold cutAt
  rw [List.findIdx_eq_length]
  intro x hx
  obtain ⟨i, hi, rfl⟩ := List.getElem_of_mem hx
  exact h i hi
theorem cutAt_at (s : List UInt8) (i : Nat) (hi : i < s.length) (h : ∀ k (hk : k < i), isE s[k] = false) (he : isE s[i] = true) : cutAt s = i := by
  unfold cutAt
  rw [List.findIdx_eq hi]
  exact ⟨he, fun j hj => h j hj⟩

structure Parts where
  neg : Bool
  all : List UInt8
  behind : Nat
  expNeg : Bool
  exp : List UInt8
def partsA (s : List UInt8) : List UInt8 × List UInt8 × Bool := cutC 46 ((dsg s).1.take (cutAt (dsg s).1))
def partsE (s : List UInt8) : List UInt8 × Bool := if cutAt (dsg s).1 < (dsg s).1.length then dsg ((dsg s).1.drop (cutAt (dsg s).1 + 1)) else ([48], false)
def parts (s : List UInt8) : Parts := ⟨(dsg s).2, (partsA s).1 ++ (partsA s).2.1, (partsA s).2.1.length, (partsE s).2, (partsE s).1⟩
def partsOk (p : Parts) : Bool := decide (p.all ≠ []) && decide (p.exp ≠ []) && p.all.all isDig && p.exp.all isDig
def encParts (p : Parts) : PV := .agg [.bool p.neg, .str p.all, .int .i64 (p.behind : Int), .bool p.expNeg, .str p.exp]

def cuI (s1 : List UInt8) (neg : Bool) (i : Nat) : St := ⟨80, [(20, .p (.int .i64 (i : Int))), (19, .p (.int .i64 (s1.length : Int))), (5, .p (.int .i64 (s1.length : Int))), (4, .ptr 4 5 0 0), (2, .ptr 2 5 0 0), (0, .p (.str s1))],
  [(4, ⟨false, 5, .p [[.bool neg, .str [], .int .i64 0, .bool false, .str []]]⟩), (2, ⟨false, 5, .p [[.bool false, .str [], .int .i64 0, .bool false, .str []]]⟩)]⟩

set_option maxHeartbeats 8000000 in
theorem t_dcut (s : List UInt8) (hs : s.length ≤ 100000) : PCall Tryd.prog 69 [.str s] (· = .tup [encParts (parts s), .bool (partsOk (parts s))]) := by
  refine pcall_vcz c_dcut (by simp [c_dcut]) fun x K hK => ?_
  have l1 := dsg_len s
  simp [c_dcut]
  refine oks_callz [] .wide [.str s] (t_dsign s (by omega)) (by simp) (by simp; rfl) (by simp) ?_
  rintro _ rfl
  refine oks_vc .wide ?_
  obtain ⟨s1, hs1⟩ : ∃ s1, s1 = (dsg s).1 := ⟨_, rfl⟩
  rw [← hs1] at l1 ⊢
  simp
  refine vc_loop .wide (cuI s1 (dsg s).2) (fun i => i ≤ s1.length ∧ ∀ k, k < i → ∀ hk : k < s1.length, isE s1[k] = false) (fun i => s1.length - i) 0 ⟨by omega, fun k h => by omega⟩ ?_ ?_
  · exact sub_iff (by simp [cuI])
  · rintro i ⟨h1, h2⟩ Q g1 g2
    by_cases h0 : i = s1.length
    · subst h0
      have hat : cutAt s1 = s1.length := cutAt_none s1 fun k hk => h2 k hk hk
      simp [cuI]
      refine g2 _ _ (by simp) ?_
      simp
      obtain ⟨A, hA⟩ : ∃ A, A = (cutC 46 s1).1 := ⟨_, rfl⟩
      obtain ⟨B, hB⟩ : ∃ B, B = (cutC 46 s1).2.1 := ⟨_, rfl⟩
      have lAB := cutC_len 46 s1
      rw [← hA, ← hB] at lAB
      refine oks_callz [] .wide [.str s1, .str [46]] (t_cut s1 46 (by omega)) (by simp) (by simp; rfl) (by simp) ?_
      rintro _ rfl
      refine oks_vc .wide ?_
      simp [cutP, ← hA, ← hB, show A.length + B.length ≤ 9223372036854775807 by omega]
      obtain ⟨al, hal⟩ : ∃ al, al = A ++ B := ⟨_, rfl⟩
      have lal : al.length ≤ 1000000 := by rw [hal, List.length_append]; omega
      rw [← hal]
      obtain ⟨E, hE⟩ : ∃ E : List UInt8, E = [48] := ⟨_, rfl⟩
      obtain ⟨en, hen⟩ : ∃ en : Bool, en = false := ⟨_, rfl⟩
      have lE : E.length ≤ 1000000 := by rw [hE]; simp
      have hp : parts s = ⟨(dsg s).2, al, B.length, en, E⟩ := by
        have p1 : partsA s = (A, B, (cutC 46 s1).2.2) := by unfold partsA; rw [← hs1, hat, List.take_length, hA, hB]
        have p2 : partsE s = (E, en) := by unfold partsE; rw [← hs1, hat, if_neg (by omega), hE, hen]
        unfold parts; rw [p1, p2, hal]
      rw [hp] at hK
      subst hE hen
      refine vc_drawS .wide [(19, 2)] rfl ?_
      by_cases e1 : al = []
      · simp [e1]
        exact hK _ _ rfl (by simp [encParts, partsOk, e1])
      · simp [e1]
        refine dcall_pz [.str al] _ (t_digits al lal) (by simp; rfl) (by simp) ?_
        cases h1 : al.all isDig with
        | false =>
          simp
          exact hK _ _ rfl (by simp [encParts, partsOk, e1, h1])
        | true =>
          simp
          refine dcall_pz [.str [48]] _ (t_digits [48] (by simp)) (by simp; rfl) (by simp) ?_
          simp
          exact hK _ _ rfl (by simp [encParts, partsOk, e1, h1])
    · have hlt : i < s1.length := by omega
      have hw : IntKind.i64.wrap ((i : Int) + 1) = (i : Int) + 1 := wrap_i64 (by omega)
      by_cases he : isE s1[i] = true
      · have hat : cutAt s1 = i := cutAt_at s1 i hlt (fun k hk => h2 k hk (by omega)) he
        have e1 : ((s1[i].toNat : Int) == 101 || (s1[i].toNat : Int) == 69) = true := by
          simp only [isE, Bool.or_eq_true, beq_iff_eq] at he ⊢
          omega
        by_cases a1 : (s1[i].toNat : Int) = 101
        · simp [cuI, hlt, a1]
          refine g2 _ _ (by simp) ?_
          simp [show i ≤ s1.length by omega]
          obtain ⟨A, hA⟩ : ∃ A, A = (cutC 46 (s1.take i)).1 := ⟨_, rfl⟩
          obtain ⟨B, hB⟩ : ∃ B, B = (cutC 46 (s1.take i)).2.1 := ⟨_, rfl⟩
          have lAB := cutC_len 46 (s1.take i)
          rw [← hA, ← hB, List.length_take] at lAB
          refine oks_callz [] .wide [.str (s1.take i), .str [46]] (t_cut (s1.take i) 46 (by rw [List.length_take]; omega)) (by simp) (by simp; rfl) (by simp) ?_
          rintro _ rfl
          refine oks_vc .wide ?_
          simp [cutP, ← hA, ← hB, show A.length + B.length ≤ 9223372036854775807 by omega]
          obtain ⟨al, hal⟩ : ∃ al, al = A ++ B := ⟨_, rfl⟩
          have lal : al.length ≤ 1000000 := by rw [hal, List.length_append]; omega
          rw [← hal]
          have hw2 : IntKind.i64.wrap ((i : Int) + 1) = (i : Int) + 1 := wrap_i64 (by omega)
          simp [hlt, show ¬ s1.length ≤ i by omega, hw2, show (0 : Int) ≤ (i : Int) + 1 by omega, show i + 1 ≤ s1.length by omega, show List.take (s1.length - (i + 1)) (List.drop (i + 1) s1) = List.drop (i + 1) s1 from List.take_of_length_le (by rw [List.length_drop]; omega)]
          have hds := t_dsign (s1.drop (i + 1)) (by rw [List.length_drop]; omega)
          refine oks_callz [] .wide [.str (s1.drop (i + 1))] hds (by simp) (by simp; rfl) (by simp) ?_
          rintro _ rfl
          refine oks_vc .wide ?_
          obtain ⟨E, hE⟩ : ∃ E : List UInt8, E = (dsg (s1.drop (i + 1))).1 := ⟨_, rfl⟩
          obtain ⟨en, hen⟩ : ∃ en : Bool, en = (dsg (s1.drop (i + 1))).2 := ⟨_, rfl⟩
          have lE : E.length ≤ 1000000 := by rw [hE]; have := dsg_len (s1.drop (i + 1)); rw [List.length_drop] at this; omega
          have hp : parts s = ⟨(dsg s).2, al, B.length, en, E⟩ := by
            have p1 : partsA s = (A, B, (cutC 46 (s1.take i)).2.2) := by unfold partsA; rw [← hs1, hat, hA, hB]
            have p2 : partsE s = (E, en) := by unfold partsE; rw [← hs1, hat, if_pos hlt, hE, hen]
            unfold parts; rw [p1, p2, hal]
          rw [hp] at hK
          simp [← hE, ← hen]
          refine vc_drawS .wide [(19, 2)] rfl ?_
          by_cases e1 : al = []
          · simp [e1]
            exact hK _ _ rfl (by simp [encParts, partsOk, e1])
          · by_cases e2 : E = []
            · simp [e1, e2]
              exact hK _ _ rfl (by simp [encParts, partsOk, e1, e2])
            · simp [e1, e2]
              refine dcall_pz [.str al] _ (t_digits al lal) (by simp; rfl) (by simp) ?_
              cases h1 : al.all isDig with
              | false =>
                simp [e2]
                exact hK _ _ rfl (by simp [encParts, partsOk, e1, e2, h1])
              | true =>
                simp [e2]
                refine dcall_pz [.str E] _ (t_digits E (by exact lE)) (by simp; rfl) (by simp) ?_
                simp
                exact hK _ _ rfl (by simp [encParts, partsOk, e1, e2, h1])
        · have a2 : (s1[i].toNat : Int) = 69 := by
            simp only [isE, Bool.or_eq_true, beq_iff_eq] at he
            omega
          simp [cuI, hlt, a1, a2]
          refine g2 _ _ (by simp) ?_
          simp [show i ≤ s1.length by omega]
          obtain ⟨A, hA⟩ : ∃ A, A = (cutC 46 (s1.take i)).1 := ⟨_, rfl⟩
          obtain ⟨B, hB⟩ : ∃ B, B = (cutC 46 (s1.take i)).2.1 := ⟨_, rfl⟩
          have lAB := cutC_len 46 (s1.take i)
          rw [← hA, ← hB, List.length_take] at lAB
          refine oks_callz [] .wide [.str (s1.take i), .str [46]] (t_cut (s1.take i) 46 (by rw [List.length_take]; omega)) (by simp) (by simp; rfl) (by simp) ?_
          rintro _ rfl
          refine oks_vc .wide ?_
          simp [cutP, ← hA, ← hB, show A.length + B.length ≤ 9223372036854775807 by omega]
          obtain ⟨al, hal⟩ : ∃ al, al = A ++ B := ⟨_, rfl⟩
          have lal : al.length ≤ 1000000 := by rw [hal, List.length_append]; omega
          rw [← hal]
          have hw2 : IntKind.i64.wrap ((i : Int) + 1) = (i : Int) + 1 := wrap_i64 (by omega)
          simp [hlt, show ¬ s1.length ≤ i by omega, hw2, show (0 : Int) ≤ (i : Int) + 1 by omega, show i + 1 ≤ s1.length by omega, show List.take (s1.length - (i + 1)) (List.drop (i + 1) s1) = List.drop (i + 1) s1 from List.take_of_length_le (by rw [List.length_drop]; omega)]
          have hds := t_dsign (s1.drop (i + 1)) (by rw [List.length_drop]; omega)
          refine oks_callz [] .wide [.str (s1.drop (i + 1))] hds (by simp) (by simp; rfl) (by simp) ?_
          rintro _ rfl
          refine oks_vc .wide ?_
          obtain ⟨E, hE⟩ : ∃ E : List UInt8, E = (dsg (s1.drop (i + 1))).1 := ⟨_, rfl⟩
          obtain ⟨en, hen⟩ : ∃ en : Bool, en = (dsg (s1.drop (i + 1))).2 := ⟨_, rfl⟩
          have lE : E.length ≤ 1000000 := by rw [hE]; have := dsg_len (s1.drop (i + 1)); rw [List.length_drop] at this; omega
          have hp : parts s = ⟨(dsg s).2, al, B.length, en, E⟩ := by
            have p1 : partsA s = (A, B, (cutC 46 (s1.take i)).2.2) := by unfold partsA; rw [← hs1, hat, hA, hB]
            have p2 : partsE s = (E, en) := by unfold partsE; rw [← hs1, hat, if_pos hlt, hE, hen]
            unfold parts; rw [p1, p2, hal]
          rw [hp] at hK
          simp [← hE, ← hen]
          refine vc_drawS .wide [(19, 2)] rfl ?_
          by_cases e1 : al = []
          · simp [e1]
            exact hK _ _ rfl (by simp [encParts, partsOk, e1])
          · by_cases e2 : E = []
            · simp [e1, e2]
              exact hK _ _ rfl (by simp [encParts, partsOk, e1, e2])
            · simp [e1, e2]
              refine dcall_pz [.str al] _ (t_digits al lal) (by simp; rfl) (by simp) ?_
              cases h1 : al.all isDig with
              | false =>
                simp [e2]
                exact hK _ _ rfl (by simp [encParts, partsOk, e1, e2, h1])
              | true =>
                simp [e2]
                refine dcall_pz [.str E] _ (t_digits E (by exact lE)) (by simp; rfl) (by simp) ?_
                simp
                exact hK _ _ rfl (by simp [encParts, partsOk, e1, e2, h1])
      · have he' : isE s1[i] = false := by simpa using he
        have a1 : ¬ (s1[i].toNat : Int) = 101 := by
          simp only [isE, Bool.or_eq_false_iff, beq_eq_false_iff_ne] at he'
          omega
        have a2 : ¬ (s1[i].toNat : Int) = 69 := by
          simp only [isE, Bool.or_eq_false_iff, beq_eq_false_iff_ne] at he'
          omega
        simp [cuI, hlt, a1, a2, hw]
        refine g1 _ (i + 1) ⟨by omega, fun k hk hk' => ?_⟩ (by omega) (sub_iff (by simp [cuI]))
        by_cases hki : k = i
        · subst hki; exact he'
        · exact h2 k (by omega) hk'
end Go.Dl
