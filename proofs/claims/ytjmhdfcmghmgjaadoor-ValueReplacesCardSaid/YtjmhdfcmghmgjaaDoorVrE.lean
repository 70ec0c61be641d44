/- hornbeam's law ValueReplaces: the row and its card: whatever the arguments, the law answers true and each argument reads as it did. The two tables that the row lists hold what they are laid with. -/
import Derived.Test.YtjmhdfcmghmgjaaDoorA18
import Derived.Test.YtjmhdfcmghmgjaaDoorA20
import Derived.Test.YtjmhdfcmghmgjaaDoorCards
import Derived.Test.YtjmhdfcmghmgjaaDoorTie
import Derived.WalkKit
import Derived.ProofKit
import Derived.OpenShut
import Derived.Deep.DeepHandedRow
import Derived.Lib.LaidTab
import Derived.Carry
set_option linter.unusedVariables false
set_option linter.unusedSimpArgs false
namespace Go.Proofs.YtjmhdfcmghmgjaaDoor
open Go.ChangeShapes Go.WideShapes Go.ChangeAt Go.RowKit Go.Dl

theorem vr_own : ownKnob Tryd.prog.godebug = none := by kernel_rfl
theorem vr_laidOut : laidOutB Tryd.prog = true := by kernel_rfl

set_option maxRecDepth 100000 in
theorem vr_contract (H : Type) (enc : TypeId × Value → H) (W : World) (args : Array Value) (ds gs : List (DataW H)) (before : List MemPlace)
    (hval : ∀ (j : Nat) t v, Tryd.f6.params[j]? = some t → args[j]? = some v → Value.okWide Tryd.prog W .any 0 t v)
    (hW : DataW.Whole enc Tryd.prog Tryd.f6.params.toList Rows.valueReplacesSpec.vars false W args.toList ds gs before) :
    Calls Tryd.prog 6 args W fun e W' => ∃ v, e = .returned v ∧ Rows.valueReplacesSpec.post enc Tryd.prog Tryd.f6 false true false false W args v W' := by
  have hW' := hW
  obtain ⟨p, q, hA0, hV, rfl, hfz, hnd⟩ := hW
  have hA : DataW.TrodAll enc Tryd.prog W 0 (fun _ => true) true Tryd.f6.params.toList args.toList ds p := hA0
  rw [Tryd.params6] at hA hval
  obtain ⟨v0, vs0, d0, ds0, p0, q0, hargs, rfl, rfl, h0, r0⟩ := trodAll_cons hA
  obtain ⟨v1, vs1, d1, ds1, p1, q1, rfl, rfl, rfl, h1, r1⟩ := trodAll_cons r0
  obtain ⟨rfl, rfl, rfl⟩ := trodAll_nil r1
  obtain rfl : args = #[v0, v1] := by cases args; simp_all
  obtain ⟨rfl, rfl⟩ := trodVars_none hV
  have hv0 := hval 0 59 v0 rfl rfl
  have hv1 := hval 1 24 v1 rfl rfl
  have hlt : ∀ x ∈ p0 ++ (p1 ++ []) ++ [], x.block < W.heap.size := fun x hx => hW'.lt x hx
  obtain ⟨w0, e0⟩ := arg_flds hv0 h0
  obtain ⟨w1, e1⟩ := arg_vals hv1 h1
  refine (t_vrepl w0 w1 W (fun _ => False) [v0, v1] (fun b h => h.elim) rfl ?_).mono ?_
  · intro i c v hc hv
    match i with
    | 0 => simp at hc hv; subst hc hv; exact e0
    | 1 => simp at hc hv; subst hc hv; exact e1
    | i + 2 => simp at hc
  · rintro e W' ⟨v, r, rfl, rfl, hfr, hrel⟩
    have hb := hfr.below
    cases hrel
    refine ⟨_, rfl, _, _, _, [], p0 ++ (p1 ++ []), [], hW', ?_, ?_, rfl, ?_, fun h => by cases h⟩
    · exact trodAll_cons_mk (shut_bool Tryd.underlying4 _) trodAll_mk0
    · exact (trodAll_cons_mk (Below.trod vr_laidOut (by kernel_rfl) (of_decide_eq_true (by kernel_rfl)) h0 hb (fun x hx => hlt x (by simp [hx]))) (trodAll_cons_mk (Below.trod vr_laidOut (by kernel_rfl) (of_decide_eq_true (by kernel_rfl)) h1 hb (fun x hx => hlt x (by simp [hx]))) trodAll_mk0))
    · exact hb.frame _

/-- A world for the witness: the settled one, the two tables holding what they are laid with. -/
noncomputable def vr_lay (cs : List Value) : Obj → Obj
  | .cells _ t frozen => .cells cs.toArray t frozen
  | o => o
noncomputable def vr_world (os : Os) : World :=
  { World.holding Tryd.prog os ⟨#[], #[], []⟩ with heap := ((World.holding Tryd.prog os ⟨#[], #[], []⟩).heap.modify 1 (vr_lay (cellsAgg2 Rows.laid_unicode_utf8_first))).modify 2 (vr_lay (cellsAgg2 Rows.laid_unicode_utf8_acceptRanges)) }
def vr_args : Array Value := #[.slice none 0 0, .slice none 0 0]
theorem vr_laid (os : Os) : laidMet Tryd.prog Rows.valueReplacesRow.laid ((vr_world os).forCall (fun _ _ => 0) ⟨#[], vr_args, []⟩).memory :=
  laidMet_of_run' 8 (by kernel_rfl) (by kernel_rfl)
theorem vr_reads (os : Os) {H : Type} (enc : TypeId × Value → H) : ∃ places, DataW.whole enc Tryd.prog ((vr_world os).forCall (fun _ _ => 0) ⟨#[], vr_args, []⟩).memory Tryd.f6.params.toList Rows.valueReplacesSpec.vars false vr_args.toList 8 =
    some ([.nil, .nil], [], places) :=
  ⟨[], by kernel_rfl⟩

set_option maxRecDepth 100000 in
theorem vr_lifted (os : Os) (started : os.Started) (H : Type) (enc : TypeId × Value → H) (F : Stop.Interp) :
    ReturnsInHanded {} Tryd.checked os 6 .any ((OpenSpec.ofChange Rows.valueReplacesSpec).preRow enc Tryd.prog Tryd.f6 Rows.valueReplacesRow.domain false Rows.valueReplacesRow.laid) (((OpenSpec.ofChange Rows.valueReplacesSpec).at F).post enc Tryd.prog Tryd.f6 false true false false) := by
  obtain ⟨places, hx⟩ := vr_reads os enc
  refine returnsInHanded_of_row (C := Tryd.checked) (s := OpenSpec.ofChange Rows.valueReplacesSpec) vr_own started (by kernel_rfl) Tryd.func6
    (witness_row_at (enc := enc) (C := Tryd.checked) false (vr_world os) vr_args rfl (by kernel_rfl) (by kernel_rfl) (by kernel_rfl)
      (OpenSpec.preRow_of_cond 8 hx (by kernel_rfl) (fun k hk => by cases hk) (by kernel_rfl) (vr_laid os))) ?_
  intro W base args ds gs before hval hW _ _ _ hL _ _
  exact vr_contract H enc W args ds gs before hval hW

theorem vr_said : Rows.ValueReplacesSaid :=
  OpenClaim.holds_of_cond 6 Tryd.f6 rfl rfl rfl rfl rfl rfl rfl ⟨rfl, rfl, rfl, rfl, rfl⟩ rfl rfl rfl rfl rfl (by kernel_rfl) Tryd.func6 (by kernel_rfl)
    (of_decide_eq_true (by kernel_rfl)) (by unfold Func.isWrapper; first | (rw [if_pos (by decide +kernel)]; kernel_rfl) | (rw [if_neg (by decide +kernel)]; exact ⟨rfl, rfl⟩))
    (fun os started H enc _ F => by rw [OpenClaim.pre_eq_preRow]; exact vr_lifted os started H enc F)

theorem vr_plain (f : FuncId) (fn : Func) (hf : Tryd.pinned.checked.prog.funcNamed "hornbeam/hornbeamlaw12.ValueReplaces" = some f) (hfn : Tryd.pinned.checked.prog.funcs[f]? = some fn) :
    false = Tryd.pinned.checked.prog.looks [] ∧ ∀ (j : Nat) t, fn.params[j]? = some t → Tryd.pinned.checked.prog.wantsStandIn t = false := by
  obtain rfl : f = 6 := Option.some.inj ((show Tryd.prog.funcNamed "hornbeam/hornbeamlaw12.ValueReplaces" = some 6 by kernel_rfl).symm.trans hf) |>.symm
  obtain rfl : fn = Tryd.f6 := (Option.some.inj (Tryd.func6.symm.trans hfn)).symm
  refine ⟨by kernel_rfl, fun j t ht => ?_⟩
  rw [Tryd.params6] at ht
  have ht' : t = 59 ∨ t = 24 := by simpa using Array.mem_of_getElem? ht
  rcases ht' with rfl | rfl
  · exact (show Tryd.prog.wantsStandIn 59 = false by kernel_rfl)
  · exact (show Tryd.prog.wantsStandIn 24 = false by kernel_rfl)

theorem valueReplaces_card : Rows.ValueReplacesCardSaid :=
  Claim7.holds_tied_plain_at .later [] _ _ _ _ vr_said (fun _ h => by cases h) (by kernel_rfl) (fun _ h => by cases h) valueReplaces_row_tie rfl ⟨rfl, rfl⟩ (by kernel_rfl) rfl vr_plain (by kernel_rfl)
end Go.Proofs.YtjmhdfcmghmgjaaDoor
