/- bits.LeadingZeros32. -/
import Derived.Test.YtjmhdfcmghmgjaaDoorNtO
import Derived.Lib.Small
import Derived.Lib.BitFns
import Derived.Lib.ItoaNum
set_option linter.unusedVariables false
set_option linter.unusedSimpArgs false
namespace Go.Proofs
set_option maxHeartbeats 4000000 in
set_option maxRecDepth 100000 in
theorem walk_Len32 (x : Int) (w : World) (h0 : 0 ≤ x) (h1 : x ≤ 4294967295) :
    Calls Tryd.prog 122 #[.int .u32 x] w fun e w' => e = .returned (.int .i64 (Lib.bitLen x.toNat)) ∧ w' = w := by
  go_enter Tryd.func122, Tryd.ntmps122
  go_wp2
  all_goals (go_ret; refine ⟨congrArg Ending.returned (congrArg (Value.int IntKind.i64) ?_), rfl⟩)
  all_goals first
    | (rw [Lib.len8_of (x / 65536 / 256 % 256) (by omega) (by omega)]
       have e : (x / 65536 / 256 % 256).toNat = x.toNat / 16777216 := by omega
       have l := Lib.bitLen_le8' (x / 65536 / 256 % 256) (by omega) (by omega)
       have s := Lib.bitLen_shift24 x.toNat (by omega) (by omega)
       rw [e] at l ⊢
       omega)
    | (rw [Lib.len8_of (x / 65536 % 256) (by omega) (by omega)]
       have e : (x / 65536 % 256).toNat = x.toNat / 65536 := by omega
       have l := Lib.bitLen_le8' (x / 65536 % 256) (by omega) (by omega)
       have s := Lib.bitLen_shift16 x.toNat (by omega) (by omega)
       rw [e] at l ⊢
       omega)
    | (rw [Lib.len8_of (x / 256 % 256) (by omega) (by omega)]
       have e : (x / 256 % 256).toNat = x.toNat / 256 := by omega
       have l := Lib.bitLen_le8' (x / 256 % 256) (by omega) (by omega)
       have s := Lib.bitLen_shift8 x.toNat (by omega) (by omega)
       rw [e] at l ⊢
       omega)
    | (rw [Lib.len8_of (x % 256) (by omega) (by omega)]
       have e : (x % 256).toNat = x.toNat := by omega
       have l := Lib.bitLen_le8' (x % 256) (by omega) (by omega)
       rw [e] at l ⊢
       omega)
end Go.Proofs
set_option maxRecDepth 1000000
namespace Go.Dl
open Go.Proofs
noncomputable def c_lz : { d : DFn // compF Tryd.prog 116 = some d } := by
  refine ⟨?_, ?_⟩
  rotate_left
  · conv => lhs; reduce

theorem t_len32 (x : Nat) (hx : x < 4294967296) : PCall Tryd.prog 122 [.int .u32 (U x)] (· = .int .i64 (Lib.bitLen x : Int)) := by
  intro w S vs hS hl hrel
  match vs, hl with
  | [v1], _ =>
    have h1 := hrel 0 _ v1 rfl rfl
    cases h1
    refine (walk_Len32 (U x) w (by unfold U; omega) (by unfold U; omega)).mono ?_
    rintro e w' ⟨rfl, rfl⟩
    exact ⟨_, _, rfl, rfl, Fr.refl _ _, .int _ _⟩
/-- how far a limb is shifted to have its highest bit set -/
def lz (x : Nat) : Nat := 32 - Lib.bitLen x
theorem lz_spec (x : Nat) (h0 : x ≠ 0) (hx : x < 4294967296) : lz x ≤ 31 ∧ 2147483648 ≤ x * 2 ^ lz x ∧ x * 2 ^ lz x < 4294967296 := by
  obtain ⟨h1, h2, h3⟩ := Lib.bitLenAux_bounds 64 x (by omega) h0
  have h4 := Lib.bitLen_le x 32 (by decide) (by omega)
  have e : Lib.bitLenAux 64 x = Lib.bitLen x := rfl
  rw [e] at h1 h2 h3
  unfold lz
  generalize Lib.bitLen x = b at *
  refine ⟨by omega, ?_, ?_⟩
  · have := Nat.mul_le_mul_right (2 ^ (32 - b)) h2
    rw [← Nat.pow_add, show b - 1 + (32 - b) = 31 by omega] at this
    exact this
  · have := Nat.mul_lt_mul_of_pos_right h3 (Nat.pow_pos (n := 32 - b) (by decide : 0 < 2))
    rw [← Nat.pow_add, show b + (32 - b) = 32 by omega] at this
    exact this
theorem t_lz (x : Nat) (hx : x < 4294967296) : PCall Tryd.prog 116 [.int .u32 (U x)] (· = .int .i64 (lz x : Int)) := by
  refine pcall_vc c_lz (by simp [c_lz]) fun x' K hK => ?_
  have h4 := Lib.bitLen_le x 32 (by decide) (by omega)
  have hw : IntKind.i64.wrap (32 - (Lib.bitLen x : Int)) = (lz x : Int) := by rw [wrap_i64 (by omega)]; unfold lz; omega
  simp [c_lz]
  refine oks_callz [] .wide [.int .u32 (U x)] (t_len32 x hx) (by simp) (by simp; rfl) (by simp) ?_
  rintro _ rfl
  refine oks_vc .wide ?_
  simp [hw]
  exact hK _ rfl
end Go.Dl
