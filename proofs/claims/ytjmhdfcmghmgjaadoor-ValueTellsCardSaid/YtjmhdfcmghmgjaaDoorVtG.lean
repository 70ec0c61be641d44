/- hornbeam's law ValueTells: the row and its card: whatever the arguments, the law answers true and each argument reads as it did. The two tables that the row lists hold what they are laid with. -/
import Derived.Test.YtjmhdfcmghmgjaaDoorA17
import Derived.Test.YtjmhdfcmghmgjaaDoorA18
import Derived.Test.YtjmhdfcmghmgjaaDoorCards
import Derived.Test.YtjmhdfcmghmgjaaDoorTie
import Derived.WalkKit
import Derived.ProofKit
import Derived.OpenShut
import Derived.Deep.DeepHandedRow
import Derived.Lib.LaidTab
import Derived.Carry
set_option linter.unusedVariables false
set_option linter.unusedSimpArgs false
namespace Go.Proofs.YtjmhdfcmghmgjaaDoor
open Go.ChangeShapes Go.WideShapes Go.ChangeAt Go.RowKit Go.Dl

theorem vt_own : ownKnob Tryd.prog.godebug = none := by kernel_rfl
theorem vt_laidOut : laidOutB Tryd.prog = true := by kernel_rfl

set_option maxRecDepth 100000 in
theorem vt_contract (H : Type) (enc : TypeId × Value → H) (W : World) (args : Array Value) (ds gs : List (DataW H)) (before : List MemPlace)
    (hval : ∀ (j : Nat) t v, Tryd.f5.params[j]? = some t → args[j]? = some v → Value.okWide Tryd.prog W .any 0 t v)
    (hW : DataW.Whole enc Tryd.prog Tryd.f5.params.toList Rows.valueTellsSpec.vars false W args.toList ds gs before) :
    Calls Tryd.prog 5 args W fun e W' => ∃ v, e = .returned v ∧ Rows.valueTellsSpec.post enc Tryd.prog Tryd.f5 false true false false W args v W' := by
  have hW' := hW
  obtain ⟨p, q, hA0, hV, rfl, hfz, hnd⟩ := hW
  have hA : DataW.TrodAll enc Tryd.prog W 0 (fun _ => true) true Tryd.f5.params.toList args.toList ds p := hA0
  rw [Tryd.params5] at hA hval
  obtain ⟨v0, vs0, d0, ds0, p0, q0, hargs, rfl, rfl, h0, r0⟩ := trodAll_cons hA
  obtain ⟨v1, vs1, d1, ds1, p1, q1, rfl, rfl, rfl, h1, r1⟩ := trodAll_cons r0
  obtain ⟨v2, vs2, d2, ds2, p2, q2, rfl, rfl, rfl, h2, r2⟩ := trodAll_cons r1
  obtain ⟨rfl, rfl, rfl⟩ := trodAll_nil r2
  obtain rfl : args = #[v0, v1, v2] := by cases args; simp_all
  obtain ⟨rfl, rfl⟩ := trodVars_none hV
  have hv0 := hval 0 23 v0 rfl rfl
  have hv1 := hval 1 23 v1 rfl rfl
  have hv2 := hval 2 9 v2 rfl rfl
  have hlt : ∀ x ∈ p0 ++ (p1 ++ (p2 ++ [])) ++ [], x.block < W.heap.size := fun x hx => hW'.lt x hx
  obtain ⟨w0, rfl⟩ := open_value hv0 h0
  obtain ⟨w1, rfl⟩ := open_value hv1 h1
  obtain ⟨s2, rfl⟩ := okWide_string Tryd.underlying9 hv2
  refine (t_vtells w0 w1 s2.data.toList W (fun _ => False) [.agg (valCells w0).toArray, .agg (valCells w1).toArray, .string s2] (fun b h => h.elim) rfl ?_).mono ?_
  · intro i c v hc hv
    match i with
    | 0 => simp at hc hv; subst hc hv; exact prel_value w0
    | 1 => simp at hc hv; subst hc hv; exact prel_value w1
    | 2 => simp at hc hv; subst hc hv; exact .str s2.data.toList
    | i + 3 => simp at hc
  · rintro e W' ⟨v, r, rfl, rfl, hfr, hrel⟩
    have hb := hfr.below
    cases hrel
    refine ⟨_, rfl, _, _, _, [], p0 ++ (p1 ++ (p2 ++ [])), [], hW', ?_, ?_, rfl, ?_, fun h => by cases h⟩
    · exact trodAll_cons_mk (shut_bool Tryd.underlying4 _) trodAll_mk0
    · exact (trodAll_cons_mk (Below.trod vt_laidOut (by kernel_rfl) (of_decide_eq_true (by kernel_rfl)) h0 hb (fun x hx => hlt x (by simp [hx]))) (trodAll_cons_mk (Below.trod vt_laidOut (by kernel_rfl) (of_decide_eq_true (by kernel_rfl)) h1 hb (fun x hx => hlt x (by simp [hx]))) (trodAll_cons_mk (Below.trod vt_laidOut (by kernel_rfl) (of_decide_eq_true (by kernel_rfl)) h2 hb (fun x hx => hlt x (by simp [hx]))) trodAll_mk0)))
    · exact hb.frame _

/-- A world for the witness: the settled one, the two tables holding what they are laid with. -/
noncomputable def vt_lay (cs : List Value) : Obj → Obj
  | .cells _ t frozen => .cells cs.toArray t frozen
  | o => o
noncomputable def vt_world (os : Os) : World :=
  { World.holding Tryd.prog os ⟨#[], #[], []⟩ with heap := ((World.holding Tryd.prog os ⟨#[], #[], []⟩).heap.modify 1 (vt_lay (cellsAgg2 Rows.laid_unicode_utf8_first))).modify 2 (vt_lay (cellsAgg2 Rows.laid_unicode_utf8_acceptRanges)) }
def vt_args : Array Value := #[.agg #[.int .i64 0, .string ⟨#[]⟩, .string ⟨#[]⟩], .agg #[.int .i64 0, .string ⟨#[]⟩, .string ⟨#[]⟩], .string ⟨#[]⟩]
theorem vt_laid (os : Os) : laidMet Tryd.prog Rows.valueTellsRow.laid ((vt_world os).forCall (fun _ _ => 0) ⟨#[], vt_args, []⟩).memory :=
  laidMet_of_run' 8 (by kernel_rfl) (by kernel_rfl)
theorem vt_reads (os : Os) {H : Type} (enc : TypeId × Value → H) : ∃ places, DataW.whole enc Tryd.prog ((vt_world os).forCall (fun _ _ => 0) ⟨#[], vt_args, []⟩).memory Tryd.f5.params.toList Rows.valueTellsSpec.vars false vt_args.toList 8 =
    some ([.agg [.lit (.int .i64 0), .lit (.string []), .lit (.string [])], .agg [.lit (.int .i64 0), .lit (.string []), .lit (.string [])], .lit (.string [])], [], places) :=
  ⟨[], by kernel_rfl⟩

set_option maxRecDepth 100000 in
theorem vt_lifted (os : Os) (started : os.Started) (H : Type) (enc : TypeId × Value → H) (F : Stop.Interp) :
    ReturnsInHanded {} Tryd.checked os 5 .any ((OpenSpec.ofChange Rows.valueTellsSpec).preRow enc Tryd.prog Tryd.f5 Rows.valueTellsRow.domain false Rows.valueTellsRow.laid) (((OpenSpec.ofChange Rows.valueTellsSpec).at F).post enc Tryd.prog Tryd.f5 false true false false) := by
  obtain ⟨places, hx⟩ := vt_reads os enc
  refine returnsInHanded_of_row (C := Tryd.checked) (s := OpenSpec.ofChange Rows.valueTellsSpec) vt_own started (by kernel_rfl) Tryd.func5
    (witness_row_at (enc := enc) (C := Tryd.checked) false (vt_world os) vt_args rfl (by kernel_rfl) (by kernel_rfl) (by kernel_rfl)
      (OpenSpec.preRow_of_cond 8 hx (by kernel_rfl) (fun k hk => by cases hk) (by kernel_rfl) (vt_laid os))) ?_
  intro W base args ds gs before hval hW _ _ _ hL _ _
  exact vt_contract H enc W args ds gs before hval hW

theorem vt_said : Rows.ValueTellsSaid :=
  OpenClaim.holds_of_cond 5 Tryd.f5 rfl rfl rfl rfl rfl rfl rfl ⟨rfl, rfl, rfl, rfl, rfl⟩ rfl rfl rfl rfl rfl (by kernel_rfl) Tryd.func5 (by kernel_rfl)
    (of_decide_eq_true (by kernel_rfl)) (by unfold Func.isWrapper; first | (rw [if_pos (by decide +kernel)]; kernel_rfl) | (rw [if_neg (by decide +kernel)]; exact ⟨rfl, rfl⟩))
    (fun os started H enc _ F => by rw [OpenClaim.pre_eq_preRow]; exact vt_lifted os started H enc F)

theorem vt_plain (f : FuncId) (fn : Func) (hf : Tryd.pinned.checked.prog.funcNamed "hornbeam/hornbeamlaw12.ValueTells" = some f) (hfn : Tryd.pinned.checked.prog.funcs[f]? = some fn) :
    false = Tryd.pinned.checked.prog.looks [] ∧ ∀ (j : Nat) t, fn.params[j]? = some t → Tryd.pinned.checked.prog.wantsStandIn t = false := by
  obtain rfl : f = 5 := Option.some.inj ((show Tryd.prog.funcNamed "hornbeam/hornbeamlaw12.ValueTells" = some 5 by kernel_rfl).symm.trans hf) |>.symm
  obtain rfl : fn = Tryd.f5 := (Option.some.inj (Tryd.func5.symm.trans hfn)).symm
  refine ⟨by kernel_rfl, fun j t ht => ?_⟩
  rw [Tryd.params5] at ht
  have ht' : t = 23 ∨ t = 23 ∨ t = 9 := by simpa using Array.mem_of_getElem? ht
  rcases ht' with rfl | rfl | rfl
  · exact (show Tryd.prog.wantsStandIn 23 = false by kernel_rfl)
  · exact (show Tryd.prog.wantsStandIn 23 = false by kernel_rfl)
  · exact (show Tryd.prog.wantsStandIn 9 = false by kernel_rfl)

theorem valueTells_card : Rows.ValueTellsCardSaid :=
  Claim7.holds_tied_plain_at .later [] _ _ _ _ vt_said (fun _ h => by cases h) (by kernel_rfl) (fun _ h => by cases h) valueTells_row_tie rfl ⟨rfl, rfl⟩ (by kernel_rfl) rfl vt_plain (by kernel_rfl)
end Go.Proofs.YtjmhdfcmghmgjaaDoor
