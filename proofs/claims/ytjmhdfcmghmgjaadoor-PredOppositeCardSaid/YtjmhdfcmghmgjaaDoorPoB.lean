/- The row and the card of hornbeamlaw13.PredOpposite. -/
import Derived.Test.YtjmhdfcmghmgjaaDoorPoA
import Derived.Test.YtjmhdfcmghmgjaaDoorRwA
import Derived.Test.YtjmhdfcmghmgjaaDoorCards
import Derived.Test.YtjmhdfcmghmgjaaDoorTie
import Derived.WalkKit
import Derived.ProofKit
import Derived.OpenShut
import Derived.Deep.DeepHandedRow
import Derived.Lib.LaidTab
import Derived.Carry
set_option linter.unusedVariables false
set_option linter.unusedSimpArgs false
namespace Go.Proofs.YtjmhdfcmghmgjaaDoor
open Go.ChangeShapes Go.WideShapes Go.ChangeAt Go.RowKit Go.Dl

theorem po_own : ownKnob Tryd.prog.godebug = none := by kernel_rfl
theorem po_laidOut : laidOutB Tryd.prog = true := by kernel_rfl

set_option maxRecDepth 100000 in
theorem po_contract (H : Type) (enc : TypeId × Value → H) (W : World) (args : Array Value) (ds gs : List (DataW H)) (before : List MemPlace)
    (hval : ∀ (j : Nat) t v, Tryd.f3.params[j]? = some t → args[j]? = some v → Value.okWide Tryd.prog W .any 0 t v)
    (hW : DataW.Whole enc Tryd.prog Tryd.f3.params.toList Rows.predOppositeSpec.vars false W args.toList ds gs before) :
    Calls Tryd.prog 3 args W fun e W' => ∃ v, e = .returned v ∧ Rows.predOppositeSpec.post enc Tryd.prog Tryd.f3 false true false false W args v W' := by
  have hW' := hW
  obtain ⟨p, q, hA0, hV, rfl, hfz, hnd⟩ := hW
  have hA : DataW.TrodAll enc Tryd.prog W 0 (fun _ => true) true Tryd.f3.params.toList args.toList ds p := hA0
  rw [Tryd.params3] at hA hval
  obtain ⟨v0, vs0, d0, ds0, p0, q0, hargs, rfl, rfl, h0, r0⟩ := trodAll_cons hA
  obtain ⟨v1, vs1, d1, ds1, p1, q1, rfl, rfl, rfl, h1, r1⟩ := trodAll_cons r0
  obtain ⟨v2, vs2, d2, ds2, p2, q2, rfl, rfl, rfl, h2, r2⟩ := trodAll_cons r1
  obtain ⟨rfl, rfl, rfl⟩ := trodAll_nil r2
  obtain rfl : args = #[v0, v1, v2] := by cases args; simp_all
  obtain ⟨rfl, rfl⟩ := trodVars_none hV
  have hv0 := hval 0 3 v0 rfl rfl
  have hv1 := hval 1 23 v1 rfl rfl
  have hv2 := hval 2 24 v2 rfl rfl
  have hlt : ∀ x ∈ p0 ++ (p1 ++ (p2 ++ [])) ++ [], x.block < W.heap.size := fun x hx => hW'.lt x hx
  obtain ⟨n, rfl, _⟩ := open_int Tryd.underlying3 hv0 h0
  obtain ⟨w, rfl⟩ := open_value hv1 h1
  obtain ⟨row, hrow⟩ := open_values hv2 h2
  refine (t_po n w row W (fun _ => False) [.int .i64 n, .agg (valCells w).toArray, v2] (fun b h => h.elim) rfl ?_).mono ?_
  · intro i c v hc hv
    match i with
    | 0 => simp at hc hv; subst hc hv; exact .int _ _
    | 1 => simp at hc hv; subst hc hv; exact prel_value w
    | 2 => simp at hc hv; subst hc hv; exact hrow
    | i + 3 => simp at hc
  · rintro e W' ⟨v, r, rfl, rfl, hfr, hrel⟩
    have hb := hfr.below
    cases hrel
    refine ⟨_, rfl, _, _, _, [], p0 ++ (p1 ++ (p2 ++ [])), [], hW', ?_, ?_, rfl, ?_, fun h => by cases h⟩
    · exact trodAll_cons_mk (shut_bool Tryd.underlying4 _) trodAll_mk0
    · exact trodAll_cons_mk (Below.trod po_laidOut (by kernel_rfl) (of_decide_eq_true (by kernel_rfl)) h0 hb (fun x hx => hlt x (by simp [hx])))
        (trodAll_cons_mk (Below.trod po_laidOut (by kernel_rfl) (of_decide_eq_true (by kernel_rfl)) h1 hb (fun x hx => hlt x (by simp [hx])))
          (trodAll_cons_mk (Below.trod po_laidOut (by kernel_rfl) (of_decide_eq_true (by kernel_rfl)) h2 hb (fun x hx => hlt x (by simp [hx]))) trodAll_mk0))
    · exact hb.frame _

/-- A world for the witness: the settled one, the two tables holding what they are laid with. -/
noncomputable def po_lay (cs : List Value) : Obj → Obj
  | .cells _ t frozen => .cells cs.toArray t frozen
  | o => o
noncomputable def po_world (os : Os) : World :=
  { World.holding Tryd.prog os ⟨#[], #[], []⟩ with heap := ((World.holding Tryd.prog os ⟨#[], #[], []⟩).heap.modify 1 (po_lay (cellsAgg2 Rows.laid_unicode_utf8_first))).modify 2 (po_lay (cellsAgg2 Rows.laid_unicode_utf8_acceptRanges)) }
def po_args : Array Value := #[.int .i64 0, .agg #[.int .i64 0, .string ⟨#[]⟩, .string ⟨#[]⟩], .slice none 0 0]
theorem po_laid (os : Os) : laidMet Tryd.prog Rows.predOppositeRow.laid ((po_world os).forCall (fun _ _ => 0) ⟨#[], po_args, []⟩).memory :=
  laidMet_of_run' 8 (by kernel_rfl) (by kernel_rfl)
theorem po_reads (os : Os) {H : Type} (enc : TypeId × Value → H) : ∃ places, DataW.whole enc Tryd.prog ((po_world os).forCall (fun _ _ => 0) ⟨#[], po_args, []⟩).memory Tryd.f3.params.toList Rows.predOppositeSpec.vars false po_args.toList 8 =
    some ([.lit (.int .i64 0), .agg [.lit (.int .i64 0), .lit (.string []), .lit (.string [])], .nil], [], places) :=
  ⟨[], by kernel_rfl⟩

set_option maxRecDepth 100000 in
theorem po_lifted (os : Os) (started : os.Started) (H : Type) (enc : TypeId × Value → H) (F : Stop.Interp) :
    ReturnsInHanded {} Tryd.checked os 3 .any ((OpenSpec.ofChange Rows.predOppositeSpec).preRow enc Tryd.prog Tryd.f3 Rows.predOppositeRow.domain false Rows.predOppositeRow.laid) (((OpenSpec.ofChange Rows.predOppositeSpec).at F).post enc Tryd.prog Tryd.f3 false true false false) := by
  obtain ⟨places, hx⟩ := po_reads os enc
  refine returnsInHanded_of_row (C := Tryd.checked) (s := OpenSpec.ofChange Rows.predOppositeSpec) po_own started (by kernel_rfl) Tryd.func3
    (witness_row_at (enc := enc) (C := Tryd.checked) false (po_world os) po_args rfl (by kernel_rfl) (by kernel_rfl) (by kernel_rfl)
      (OpenSpec.preRow_of_cond 8 hx (by kernel_rfl) (fun k hk => by cases hk) (by kernel_rfl) (po_laid os))) ?_
  intro W base args ds gs before hval hW _ _ _ hL _ _
  exact po_contract H enc W args ds gs before hval hW

theorem po_said : Rows.PredOppositeSaid :=
  OpenClaim.holds_of_cond 3 Tryd.f3 rfl rfl rfl rfl rfl rfl rfl ⟨rfl, rfl, rfl, rfl, rfl⟩ rfl rfl rfl rfl rfl (by kernel_rfl) Tryd.func3 (by kernel_rfl)
    (of_decide_eq_true (by kernel_rfl)) (by unfold Func.isWrapper; first | (rw [if_pos (by decide +kernel)]; kernel_rfl) | (rw [if_neg (by decide +kernel)]; exact ⟨rfl, rfl⟩))
    (fun os started H enc _ F => by rw [OpenClaim.pre_eq_preRow]; exact po_lifted os started H enc F)

theorem po_plain (f : FuncId) (fn : Func) (hf : Tryd.pinned.checked.prog.funcNamed "hornbeam/hornbeamlaw13.PredOpposite" = some f) (hfn : Tryd.pinned.checked.prog.funcs[f]? = some fn) :
    false = Tryd.pinned.checked.prog.looks [] ∧ ∀ (j : Nat) t, fn.params[j]? = some t → Tryd.pinned.checked.prog.wantsStandIn t = false := by
  obtain rfl : f = 3 := Option.some.inj ((show Tryd.prog.funcNamed "hornbeam/hornbeamlaw13.PredOpposite" = some 3 by kernel_rfl).symm.trans hf) |>.symm
  obtain rfl : fn = Tryd.f3 := (Option.some.inj (Tryd.func3.symm.trans hfn)).symm
  refine ⟨by kernel_rfl, fun j t ht => ?_⟩
  rw [Tryd.params3] at ht
  obtain rfl | rfl | rfl : t = 3 ∨ t = 23 ∨ t = 24 := by simpa using Array.mem_of_getElem? ht
  · exact (show Tryd.prog.wantsStandIn 3 = false by kernel_rfl)
  · exact (show Tryd.prog.wantsStandIn 23 = false by kernel_rfl)
  · exact (show Tryd.prog.wantsStandIn 24 = false by kernel_rfl)

theorem predOpposite_card : Rows.PredOppositeCardSaid :=
  Claim7.holds_tied_plain_at .later [] _ _ _ _ po_said (fun _ h => by cases h) (by kernel_rfl) (fun _ h => by cases h) predOpposite_row_tie rfl ⟨rfl, rfl⟩ (by kernel_rfl) rfl po_plain (by kernel_rfl)
end Go.Proofs.YtjmhdfcmghmgjaaDoor
