/- Contracts of hornbeambook: Room, values, Values, Row. -/
import Derived.Test.YtjmhdfcmghmgjaaDoorRfH
set_option linter.unusedVariables false
set_option linter.unusedSimpArgs false
set_option maxRecDepth 1000000
namespace Go.Dl
open Go.Proofs

noncomputable def c_bkroom : { d : DFn // compF Tryd.prog 53 = some d } := by
  refine ⟨?_, ?_⟩
  rotate_left
  · conv => lhs; reduce
noncomputable def c_bkvalues : { d : DFn // compF Tryd.prog 45 = some d } := by
  refine ⟨?_, ?_⟩
  rotate_left
  · conv => lhs; reduce
noncomputable def c_bkValues : { d : DFn // compF Tryd.prog 17 = some d } := by
  refine ⟨?_, ?_⟩
  rotate_left
  · conv => lhs; reduce
noncomputable def c_bkrow : { d : DFn // compF Tryd.prog 7 = some d } := by
  refine ⟨?_, ?_⟩
  rotate_left
  · conv => lhs; reduce

def roomF (room : Int) : List Int → Int
  | [] => room
  | x :: r => if room < 0 ∨ room < x then -1 else roomF (room - x) r
theorem r_room (room : Int) (l : List Int) (hr : -9223372036854775808 ≤ room ∧ room ≤ 4000) (hl : ∀ x, x ∈ l → 0 ≤ x) (hlen : l.length ≤ 1000) : PCall Tryd.prog 53 [.int .i64 room, .sl none 1 (encI l) []] (· = .int .i64 (roomF room l)) := by
  refine pcall_vc c_bkroom (by simp [c_bkroom]) fun x K hK => ?_
  simp [c_bkroom]
  refine vc_loop .wide (fun y : Nat × Int => ⟨29, [(5, .p (.int .i64 (y.1 : Int))), (0, .p (.int .i64 y.2)), (1, .p (.sl none 1 (encI l) []))], []⟩)
    (fun y => y.1 ≤ l.length ∧ roomF y.2 (l.drop y.1) = roomF room l ∧ -9223372036854775808 ≤ y.2 ∧ y.2 ≤ 4000) (fun y => l.length - y.1) (0, room) ⟨by simp, by simp, hr⟩ (sub_iff (by simp)) ?_
  rintro ⟨i, rm⟩ ⟨h1, h2, h3, h4⟩ Q k1 k2
  simp only at h1 h2 h3 h4
  by_cases hi : i = l.length
  · subst hi
    simp [roomF] at h2
    simp
    refine k2 _ _ (by simp) ?_
    simp
    exact hK _ (by rw [h2])
  · have hlt : i < l.length := by omega
    have hx := hl _ (List.getElem_mem hlt)
    have hw : IntKind.i64.wrap ((i : Int) + 1) = (i : Int) + 1 := wrap_i64 (by omega)
    rw [List.drop_eq_getElem_cons hlt, roomF] at h2
    by_cases c1 : rm < 0
    · rw [if_pos (.inl c1)] at h2
      simp [hlt, c1]
      refine k2 _ _ (by simp) ?_
      simp
      exact hK _ (by rw [← h2])
    · by_cases c2 : rm < l[i]
      · rw [if_pos (.inr c2)] at h2
        simp [hlt, c1, c2]
        refine k2 _ _ (by simp) ?_
        simp
        exact hK _ (by rw [← h2])
      · rw [if_neg (by omega)] at h2
        have hw' : IntKind.i64.wrap (rm - l[i]) = rm - l[i] := wrap_i64 (by omega)
        simp [hlt, c1, c2, hw, hw']
        exact k1 _ (i + 1, rm - l[i]) ⟨by omega, h2, by simp only; omega, by simp only; omega⟩ (by simp only; omega) (sub_iff (by simp))
theorem roomF_le : ∀ (l : List Int) (room : Int), (∀ x, x ∈ l → 0 ≤ x) → room ≤ 4000 → -9223372036854775808 ≤ room → roomF room l ≤ 4000 ∧ -9223372036854775808 ≤ roomF room l
  | [], room, _, h, h' => ⟨h, h'⟩
  | x :: r, room, hl, h, h' => by
    have hx := hl x (by simp)
    unfold roomF
    split
    · exact ⟨by omega, by omega⟩
    · rename_i hc
      exact roomF_le r (room - x) (fun y hy => hl y (by simp [hy])) (by omega) (by omega)

theorem r_values (room : Int) (vs : List Val) (hr : 0 ≤ room ∧ room ≤ 4000) (hlen : vs.length ≤ 1000) : PCall Tryd.prog 45 [.int .i64 room, .sl none 3 (encVs vs) []] (fun r => ∃ n, r = .int .i64 n) := by
  refine pcall_vc c_bkvalues (by simp [c_bkvalues]) fun x K hK => ?_
  simp [c_bkvalues]
  refine vc_loop .wide (fun y : Nat × Int => ⟨32, [(5, .p (.int .i64 (y.1 : Int))), (0, .p (.int .i64 y.2)), (1, .p (.sl none 3 (encVs vs) []))], []⟩)
    (fun y => y.1 ≤ vs.length ∧ -9223372036854775808 ≤ y.2 ∧ y.2 ≤ 4000) (fun y => vs.length - y.1) (0, room) ⟨by simp, by simp only; omega, hr.2⟩ (sub_iff (by simp)) ?_
  rintro ⟨i, rm⟩ ⟨h1, h2, h3⟩ Q k1 k2
  simp only at h1 h2 h3
  by_cases hi : i = vs.length
  · subst hi
    simp
    refine k2 _ _ (by simp) ?_
    simp
    exact hK _ ⟨_, rfl⟩
  · have hlt : i < vs.length := by omega
    have hw : IntKind.i64.wrap ((i : Int) + 1) = (i : Int) + 1 := wrap_i64 (by omega)
    by_cases c1 : 0 ≤ rm
    · have hroom := r_room rm [1, (vs[i].num.length : Int), (vs[i].cat.length : Int)] ⟨by omega, h3⟩ (by intro x hx; simp at hx; omega) (by simp)
      have hle := roomF_le [1, (vs[i].num.length : Int), (vs[i].cat.length : Int)] rm (by intro x hx; simp at hx; omega) h3 h2
      simp [hlt, c1]
      refine vc_draw .wide rfl ?_
      simp [hlt, encV]
      refine dcall_pz [.int .i64 rm, .sl none 1 (encI [1, (vs[i].num.length : Int), (vs[i].cat.length : Int)]) []] _ hroom (by simp; rfl) (by simp [encI]) ?_
      simp [hw]
      exact k1 _ (i + 1, roomF rm [1, (vs[i].num.length : Int), (vs[i].cat.length : Int)]) ⟨by omega, hle.2, hle.1⟩ (by simp only; omega) (sub_iff (by simp))
    · simp [hlt, c1]
      refine k2 _ _ (by simp) ?_
      simp
      exact hK _ ⟨_, rfl⟩

theorem r_Values (vs : List Val) : PCall Tryd.prog 17 [.sl none 3 (encVs vs) []] (fun r => ∃ b, r = .bool b ∧ (b = true → vs.length ≤ 50)) := by
  refine pcall_vc c_bkValues (by simp [c_bkValues]) fun x K hK => ?_
  by_cases h : vs.length ≤ 50
  · simp [c_bkValues, h, show (vs.length : Int) ≤ 50 by omega]
    refine oks_callz [] .wide [.int .i64 4000, .sl none 3 (encVs vs) []] (r_values 4000 vs (by omega) (by omega)) (by simp) (by simp; rfl) (by simp) ?_
    rintro _ ⟨n, rfl⟩
    refine oks_vc .wide ?_
    simp
    exact hK _ ⟨_, rfl, fun _ => h⟩
  · simp [c_bkValues, h, show ¬ (vs.length : Int) ≤ 50 by omega]
    refine oks_skipc .wide (by simp) (oks_vc .wide ?_)
    simp
    exact hK _ ⟨_, rfl, by simp⟩

theorem r_row (vs : List Val) : PCall Tryd.prog 7 [.sl none 3 (encVs vs) []] (fun r => ∃ b, r = .bool b ∧ (b = true → vs.length ≤ 50 ∧ ∀ v, v ∈ vs → v.num.length ≤ 200)) := by
  refine PCall.lens fun hlen => ?_
  have hlen : vs.length ≤ 9223372036854775807 := by simpa [PV.lenok] using hlen
  refine pcall_vc c_bkrow (by simp [c_bkrow]) fun x K hK => ?_
  simp [c_bkrow]
  refine vc_loop .wide (fun i : Nat => ⟨19, [(3, .p (.int .i64 (i : Int))), (0, .p (.sl none 3 (encVs vs) []))], []⟩)
    (fun i => i ≤ vs.length ∧ ∀ v, v ∈ vs.take i → v.num.length ≤ 200) (fun i => vs.length - i) 0 ⟨by simp, by simp⟩ (sub_iff (by simp)) ?_
  rintro i ⟨h1, h2⟩ Q k1 k2
  by_cases hi : i = vs.length
  · subst hi
    rw [List.take_length] at h2
    simp
    refine k2 _ _ (by simp) ?_
    simp
    refine oks_callz [] .wide [.sl none 3 (encVs vs) []] (r_Values vs) (by simp) (by simp; rfl) (by simp) ?_
    rintro _ ⟨b, rfl, hb⟩
    refine oks_vc .wide ?_
    simp
    exact hK _ ⟨_, rfl, fun h => ⟨hb h, h2⟩⟩
  · have hlt : i < vs.length := by omega
    have hw : IntKind.i64.wrap ((i : Int) + 1) = (i : Int) + 1 := wrap_i64 (by omega)
    by_cases hc : vs[i].num.length ≤ 200
    · simp [hlt, encV, show ¬ (200 : Int) < (vs[i].num.length : Int) by omega, hw]
      refine k1 _ (i + 1) ⟨by omega, ?_⟩ (by omega) (sub_iff (by simp))
      intro v hv
      rw [← List.take_append_getElem hlt] at hv
      rcases List.mem_append.1 hv with hv | hv
      · exact h2 v hv
      · simp at hv; rw [hv]; exact hc
    · simp [hlt, encV, show (200 : Int) < (vs[i].num.length : Int) by omega]
      refine k2 _ _ (by simp) ?_
      simp
      exact hK _ ⟨_, rfl, by simp⟩
end Go.Dl
