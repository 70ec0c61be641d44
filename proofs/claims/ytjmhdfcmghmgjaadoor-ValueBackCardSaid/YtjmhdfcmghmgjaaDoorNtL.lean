/- Contracts of strings: IndexByte, Cut at one byte, CutPrefix, TrimLeft of one byte. -/
import Derived.Test.YtjmhdfcmghmgjaaDoorNtK
import Derived.Test.YtjmhdfcmghmgjaaDoorChecked
import Derived.Lib.Strings
import Derived.Lib.Slices
import Derived.Lib.Walk
import Derived.Lib.Bytealg
set_option linter.unusedVariables false
set_option linter.unusedSimpArgs false
set_option maxRecDepth 1000000
namespace Go.Proofs
set_option maxHeartbeats 1000000 in
theorem walk_indexByte (s : ByteArray) (c : Int) (w : World) :
    Calls Tryd.prog 102 #[.string s, .int .u8 c] w fun e w' => e = .returned (.int .i64 (Lib.indexByte s.data.toList c.toNat.toUInt8)) ∧ w' = w := by
  go_enter Tryd.func102, Tryd.ntmps102
  go_wp2
  rw [run_callFunc_extern Tryd.func114 (by kernel_rfl) (by kernel_rfl) (by kernel_rfl) (e := Extern.BytealgIndexByte.indexByte) (by kernel_rfl), Lib.run_indexByteString]
  simp only [Result.andThen]
  rw [Oper.upon_value]
  go_wp2
  go_ret
  exact ⟨rfl, rfl⟩
end Go.Proofs
namespace Go.Dl
open Go.Proofs

noncomputable def c_index : { d : DFn // compF Tryd.prog 89 = some d } := by
  refine ⟨?_, ?_⟩
  rotate_left
  · conv => lhs; reduce
noncomputable def c_scut : { d : DFn // compF Tryd.prog 63 = some d } := by
  refine ⟨?_, ?_⟩
  rotate_left
  · conv => lhs; reduce
noncomputable def c_cut : { d : DFn // compF Tryd.prog 41 = some d } := by
  refine ⟨?_, ?_⟩
  rotate_left
  · conv => lhs; reduce
noncomputable def c_scutp : { d : DFn // compF Tryd.prog 62 = some d } := by
  refine ⟨?_, ?_⟩
  rotate_left
  · conv => lhs; reduce
noncomputable def c_cutp : { d : DFn // compF Tryd.prog 40 = some d } := by
  refine ⟨?_, ?_⟩
  rotate_left
  · conv => lhs; reduce
noncomputable def c_hasp : { d : DFn // compF Tryd.prog 88 = some d } := by
  refine ⟨?_, ?_⟩
  rotate_left
  · conv => lhs; reduce
noncomputable def c_tlb : { d : DFn // compF Tryd.prog 94 = some d } := by
  refine ⟨?_, ?_⟩
  rotate_left
  · conv => lhs; reduce
noncomputable def c_tl : { d : DFn // compF Tryd.prog 71 = some d } := by
  refine ⟨?_, ?_⟩
  rotate_left
  · conv => lhs; reduce

/-- the first place of a byte -/
def cutC (c : UInt8) : List UInt8 → List UInt8 × List UInt8 × Bool
  | [] => ([], [], false)
  | x :: r => if x = c then ([], r, true) else (x :: (cutC c r).1, (cutC c r).2.1, (cutC c r).2.2)

theorem indexByte_cut (c : UInt8) : ∀ s : List UInt8, (Lib.indexByte s c = if (cutC c s).2.2 then ((cutC c s).1.length : Int) else -1) ∧
    ((cutC c s).2.2 = true → s = (cutC c s).1 ++ c :: (cutC c s).2.1) ∧ ((cutC c s).2.2 = false → (cutC c s).1 = s ∧ (cutC c s).2.1 = [])
  | [] => by simp [Lib.indexByte, cutC]
  | x :: r => by
    obtain ⟨h1, h2, h3⟩ := indexByte_cut c r
    by_cases e : x = c
    · subst e; simp [Lib.indexByte, cutC]
    · simp only [Lib.indexByte, cutC, beq_iff_eq, e, if_false, h1]
      cases hb : (cutC c r).2.2 with
      | true =>
        have := h2 hb
        simp [this.symm]
      | false =>
        have := h3 hb
        simp [this]

theorem t_ibyte (s : List UInt8) (c : Nat) (hc : c < 256) : PCall Tryd.prog 102 [.str s, .int .u8 (c : Int)] (· = .int .i64 (Lib.indexByte s (UInt8.ofNat c))) := by
  intro w S vs hS hl hrel
  match vs, hl with
  | [v1, v2], _ =>
    have h1 := hrel 0 _ v1 rfl rfl
    have h2 := hrel 1 _ v2 rfl rfl
    cases h1
    cases h2
    refine (walk_indexByte ⟨s.toArray⟩ c w).mono ?_
    rintro e w' ⟨rfl, rfl⟩
    refine ⟨_, _, rfl, rfl, Fr.refl _ _, ?_⟩
    have : ((c : Int).toNat).toUInt8 = UInt8.ofNat c := by simp
    simp only [this]
    exact .int _ _

theorem t_index1 (s : List UInt8) (c : UInt8) : PCall Tryd.prog 89 [.str s, .str [c]] (· = .int .i64 (Lib.indexByte s c)) := by
  refine pcall_vc c_index (by simp [c_index]) fun x K hK => ?_
  simp [c_index]
  refine ⟨fun h => hK _ (by subst h; simp [Lib.indexByte]), fun _ => ?_⟩
  refine oks_callz [] .wide [.str s, .int .u8 (c.toNat : Int)] (t_ibyte s c.toNat c.toNat_lt) (by simp) (by simp; rfl) (by simp) ?_
  rintro _ rfl
  refine oks_vc .wide ?_
  simp
  refine hK _ ?_
  simp

def cutP (c : UInt8) (s : List UInt8) : PV := .tup [.str (cutC c s).1, .str (cutC c s).2.1, .bool (cutC c s).2.2]
theorem t_scut (s : List UInt8) (c : UInt8) (hs : s.length ≤ 1000000) : PCall Tryd.prog 63 [.str s, .str [c]] (· = cutP c s) := by
  refine pcall_vc c_scut (by simp [c_scut]) fun x K hK => ?_
  simp [c_scut]
  refine oks_callz [] .wide [.str s, .str [c]] (t_index1 s c) (by simp) (by simp; rfl) (by simp) ?_
  rintro _ rfl
  refine oks_vc .wide ?_
  obtain ⟨h1, h2, h3⟩ := indexByte_cut c s
  cases hb : (cutC c s).2.2 with
  | true =>
    rw [hb, if_pos rfl] at h1
    have h2 := h2 hb
    have hlen : s.length = (cutC c s).1.length + 1 + (cutC c s).2.1.length := by
      conv => lhs; rw [h2]
      simp; omega
    have hw : IntKind.i64.wrap (((cutC c s).1.length : Int) + 1) = ((cutC c s).1.length : Int) + 1 := wrap_i64 (by omega)
    simp [h1, show (0 : Int) ≤ ((cutC c s).1.length : Int) by omega]
    refine vc_draw .wide rfl ?_
    have e1 : List.take (cutC c s).1.length s = (cutC c s).1 := by
      conv => lhs; arg 2; rw [h2]
      simp
    have e2 : List.drop ((cutC c s).1.length + 1) s = (cutC c s).2.1 := by
      conv => lhs; arg 2; rw [h2]
      simp
    simp [hw, show ((cutC c s).1.length : Nat) ≤ s.length by omega, show (0 : Int) ≤ ((cutC c s).1.length : Int) + 1 by omega, show (cutC c s).1.length + 1 ≤ s.length by omega, e1, e2]
    exact hK _ (by simp [cutP, hb]; rw [List.take_of_length_le (by omega)])
  | false =>
    rw [hb, if_neg (by simp)] at h1
    have h3 := h3 hb
    simp [h1]
    exact hK _ (by simp [cutP, hb, h3])
theorem t_cut (s : List UInt8) (c : UInt8) (hs : s.length ≤ 1000000) : PCall Tryd.prog 41 [.str s, .str [c]] (· = cutP c s) := by
  refine pcall_vc c_cut (by simp [c_cut]) fun x K hK => ?_
  simp [c_cut]
  refine oks_callz [] .wide [.str s, .str [c]] (t_scut s c hs) (by simp) (by simp; rfl) (by simp) ?_
  rintro _ rfl
  refine oks_vc .wide ?_
  simp [cutP]
  exact hK _ (by simp [cutP])

/-- a text's first byte off -/
def cutPre (c : UInt8) : List UInt8 → List UInt8 × Bool
  | [] => ([], false)
  | x :: r => if x = c then (r, true) else (x :: r, false)
def cutPreP (c : UInt8) (s : List UInt8) : PV := .tup [.str (cutPre c s).1, .bool (cutPre c s).2]
def hasPre (c : UInt8) : List UInt8 → Bool
  | [] => false
  | x :: _ => x = c
theorem t_hasp (s : List UInt8) (c : UInt8) (hs : s.length ≤ 1000000) : PCall Tryd.prog 88 [.str s, .str [c]] (· = .bool (hasPre c s)) := by
  refine pcall_vc c_hasp (by simp [c_hasp]) fun x K hK => ?_
  cases s with
  | nil =>
    simp [c_hasp]
    exact hK _ rfl
  | cons y r =>
    simp [c_hasp, show (1 : Int) ≤ (r.length : Int) + 1 by omega]
    exact hK _ (by simp [hasPre]; exact Bool.eq_iff_iff.2 (by simp))
theorem t_scutp (s : List UInt8) (c : UInt8) (hs : s.length ≤ 1000000) : PCall Tryd.prog 62 [.str s, .str [c]] (· = cutPreP c s) := by
  refine pcall_vc c_scutp (by simp [c_scutp]) fun x K hK => ?_
  simp [c_scutp]
  refine oks_callz [] .wide [.str s, .str [c]] (t_hasp s c hs) (by simp) (by simp; rfl) (by simp) ?_
  rintro _ rfl
  refine oks_vc .wide ?_
  cases s with
  | nil =>
    simp [hasPre]
    exact hK _ rfl
  | cons y r =>
    by_cases e : y = c
    · simp [hasPre, e]
      exact hK _ (by simp [cutPreP, cutPre, e])
    · simp [hasPre, e]
      exact hK _ (by simp [cutPreP, cutPre, e])
theorem t_cutp (s : List UInt8) (c : UInt8) (hs : s.length ≤ 1000000) : PCall Tryd.prog 40 [.str s, .str [c]] (· = cutPreP c s) := by
  refine pcall_vc c_cutp (by simp [c_cutp]) fun x K hK => ?_
  simp [c_cutp]
  refine oks_callz [] .wide [.str s, .str [c]] (t_scutp s c hs) (by simp) (by simp; rfl) (by simp) ?_
  rintro _ rfl
  refine oks_vc .wide ?_
  simp [cutPreP]
  exact hK _ (by simp [cutPreP])

theorem t_tlb (s : List UInt8) (c : UInt8) (hs : s.length ≤ 1000000) : PCall Tryd.prog 94 [.str s, .int .u8 (c.toNat : Int)] (· = .str (s.dropWhile (· == c))) := by
  refine pcall_vc c_tlb (by simp [c_tlb]) fun x K hK => ?_
  simp [c_tlb]
  refine vc_loop .wide (fun t : List UInt8 => ⟨17, [(0, .p (.str t)), (1, .p (.int .u8 (c.toNat : Int)))], []⟩)
    (fun t => t.dropWhile (· == c) = s.dropWhile (· == c)) (fun t => t.length) s rfl (sub_iff (by simp)) ?_
  intro t ht Q g1 g2
  cases t with
  | nil =>
    simp
    refine g2 _ _ (by simp) ?_
    simp at ht
    simp
    exact hK _ (by simp [ht])
  | cons y r =>
    by_cases e : y = c
    · subst e
      simp [show (0 : Int) < (r.length : Int) + 1 by omega, show (1 : Nat) ≤ r.length + 1 by omega]
      refine g1 _ r ?_ (by simp) (sub_iff (by simp))
      simpa using ht
    · have e' : ¬ y.toNat = c.toNat := fun h => e (UInt8.toNat_inj.1 h)
      simp [show (0 : Int) < (r.length : Int) + 1 by omega, e, e']
      refine ⟨fun h => (e' (by omega)).elim, fun _ => g2 _ _ (by simp) ?_⟩
      simp
      refine hK _ ?_
      rw [← ht]
      simp [e]
theorem t_tl (s : List UInt8) (c : UInt8) (hc : c.toNat < 128) (hs : s.length ≤ 1000000) : PCall Tryd.prog 71 [.str s, .str [c]] (· = .str (s.dropWhile (· == c))) := by
  refine pcall_vc c_tl (by simp [c_tl]) fun x K hK => ?_
  by_cases e : s = []
  · subst e
    simp [c_tl]
    exact hK _ rfl
  · simp [c_tl, e, show (c.toNat : Int) < 128 by omega]
    refine oks_callz [] .wide [.str s, .int .u8 (c.toNat : Int)] (t_tlb s c hs) (by simp) (by simp; rfl) (by simp) ?_
    rintro _ rfl
    refine oks_vc .wide ?_
    simp
    exact hK _ rfl
end Go.Dl
