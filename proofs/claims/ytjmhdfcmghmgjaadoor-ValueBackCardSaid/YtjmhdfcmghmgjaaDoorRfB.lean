/- Contracts of hornbeamref1: trim, Cmp. -/
import Derived.Test.YtjmhdfcmghmgjaaDoorRfA
set_option linter.unusedVariables false
set_option linter.unusedSimpArgs false
set_option maxRecDepth 1000000
namespace Go.Dl
open Go.Proofs

noncomputable def c_rtrim : { d : DFn // compF Tryd.prog 82 = some d } := by
  refine ⟨?_, ?_⟩
  rotate_left
  · conv => lhs; reduce
noncomputable def c_rrcmp : { d : DFn // compF Tryd.prog 50 = some d } := by
  refine ⟨?_, ?_⟩
  rotate_left
  · conv => lhs; reduce
noncomputable def c_rmul : { d : DFn // compF Tryd.prog 83 = some d } := by
  refine ⟨?_, ?_⟩
  rotate_left
  · conv => lhs; reduce
noncomputable def c_rsub : { d : DFn // compF Tryd.prog 113 = some d } := by
  refine ⟨?_, ?_⟩
  rotate_left
  · conv => lhs; reduce
noncomputable def c_rdivmod : { d : DFn // compF Tryd.prog 100 = some d } := by
  refine ⟨?_, ?_⟩
  rotate_left
  · conv => lhs; reduce
noncomputable def c_rgcd : { d : DFn // compF Tryd.prog 99 = some d } := by
  refine ⟨?_, ?_⟩
  rotate_left
  · conv => lhs; reduce
noncomputable def c_rrtext : { d : DFn // compF Tryd.prog 49 = some d } := by
  refine ⟨?_, ?_⟩
  rotate_left
  · conv => lhs; reduce
noncomputable def c_rrparse : { d : DFn // compF Tryd.prog 75 = some d } := by
  refine ⟨?_, ?_⟩
  rotate_left
  · conv => lhs; reduce
noncomputable def c_rmake : { d : DFn // compF Tryd.prog 76 = some d } := by
  refine ⟨?_, ?_⟩
  rotate_left
  · conv => lhs; reduce
noncomputable def c_rrattext : { d : DFn // compF Tryd.prog 21 = some d } := by
  refine ⟨?_, ?_⟩
  rotate_left
  · conv => lhs; reduce
noncomputable def c_rratparse : { d : DFn // compF Tryd.prog 46 = some d } := by
  refine ⟨?_, ?_⟩
  rotate_left
  · conv => lhs; reduce
noncomputable def c_rnum : { d : DFn // compF Tryd.prog 19 = some d } := by
  refine ⟨?_, ?_⟩
  rotate_left
  · conv => lhs; reduce
noncomputable def c_rvalid : { d : DFn // compF Tryd.prog 9 = some d } := by
  refine ⟨?_, ?_⟩
  rotate_left
  · conv => lhs; reduce

theorem evi_add (a b : Nat) (h : a + b < 9223372036854775808) : evBin .add (.int .i64 (U a)) (.int .i64 (U b)) = some (.int .i64 (U (a + b))) := by
  simp only [evBin, if_true]; unfold U; rw [wrap_i64 (by omega)]; congr 2
theorem evi_mul (a b : Nat) (h : a * b < 9223372036854775808) : evBin .mul (.int .i64 (U a)) (.int .i64 (U b)) = some (.int .i64 (U (a * b))) := by
  simp only [evBin, if_true]; unfold U
  rw [← Int.natCast_mul, wrap_i64 (by omega)]
theorem evi_sub (a b : Nat) (h : b ≤ a) (h' : a < 9223372036854775808) : evBin .sub (.int .i64 (U a)) (.int .i64 (U b)) = some (.int .i64 (U (a - b))) := by
  simp only [evBin, if_true]; unfold U; rw [wrap_i64 (by omega)]; congr 2; omega
theorem evi_quoW (a : Nat) (h : a < 9223372036854775808) : evBin .quo (.int .i64 (U a)) (.int .i64 10000) = some (.int .i64 (U (a / 10000))) := by
  simp only [evBin, if_true]; unfold U
  rw [if_neg (by decide), Int.tdiv_eq_ediv_of_nonneg (by omega), wrap_i64 (by omega)]; congr 2
theorem evi_remW (a : Nat) : evBin .rem (.int .i64 (U a)) (.int .i64 10000) = some (.int .i64 (U (a % 10000))) := by
  simp only [evBin, if_true]; unfold U
  rw [if_neg (by decide)]; congr 2
theorem evi_quo10 (a : Nat) (h : a < 9223372036854775808) : evBin .quo (.int .i64 (U a)) (.int .i64 10) = some (.int .i64 (U (a / 10))) := by
  simp only [evBin, if_true]; unfold U
  rw [if_neg (by decide), Int.tdiv_eq_ediv_of_nonneg (by omega), wrap_i64 (by omega)]; congr 2
theorem evi_rem10 (a : Nat) : evBin .rem (.int .i64 (U a)) (.int .i64 10) = some (.int .i64 (U (a % 10))) := by
  simp only [evBin, if_true]; unfold U
  rw [if_neg (by decide)]; congr 2
@[simp high] theorem ev_neqU (a b : Nat) (k : IntKind) : evBin .neq (.int k (U a)) (.int k (U b)) = some (.bool (decide (a ≠ b))) := by
  simp only [evBin, if_true]; congr 2
  by_cases h : a = b
  · subst h; simp
  · have : ¬ U a = U b := by unfold U; omega
    simp [h, this]
theorem topD {l : List Nat} (hok : OkLD l) (n : Nat) (hn : n ≤ l.length) (h0 : ∀ k, n ≤ k → k < l.length → l[k]? = some 0) (h1 : ∀ k, n = k + 1 → l[k]? ≠ some 0) : l.take n = limbsD (valD l) := take_limbsD hok n hn h0 h1

theorem r_trim (o : Option Bool) (l : List Nat) (hl : OkLD l) (hlen : l.length ≤ 1000000) : PCall Tryd.prog 82 [.sl o 1 (encD l) []] (· = .sl none 1 (encD (limbsD (valD l))) []) := by
  refine pcall_vc c_rtrim (by simp [c_rtrim]) fun x K hK => ?_
  simp [c_rtrim]
  refine vc_loop .wide (fun n : Nat => ⟨21, [(0, .p (.sl o 1 (encD (l.take n)) (encD (l.drop n))))], []⟩)
    (fun n => n ≤ l.length ∧ ∀ k, n ≤ k → k < l.length → l[k]? = some 0) id l.length ⟨Nat.le_refl _, by omega⟩ (sub_iff (by simp)) ?_
  intro n hn Q h1 h2
  have fin : (∀ k, n = k + 1 → l[k]? ≠ some 0) → K (.sl none 1 (encD (l.take n)) []) := fun h0 => by
    rw [topD hl n hn.1 hn.2 h0]; exact hK _ rfl
  have hmin : min n l.length = n := Nat.min_eq_left hn.1
  by_cases h0 : n = 0
  · subst h0
    simp
    refine h2 _ _ (by simp) ?_
    simp
    simpa using fin (by omega)
  · obtain ⟨m, rfl⟩ : ∃ m, n = m + 1 := ⟨n - 1, by omega⟩
    have hw : IntKind.i64.wrap (((m : Int) + 1) - 1) = m := by rw [wrap_i64 (by omega)]; omega
    have hw' : IntKind.i64.wrap (m : Int) = m := wrap_i64 (by omega)
    have hlt : m < l.length := by omega
    have hd : min (m + 1) l.length = m + 1 := Nat.min_eq_left hn.1
    obtain ⟨L, hL⟩ : ∃ L, L = l.take (m + 1) := ⟨_, rfl⟩
    have hLl : L.length = m + 1 := by rw [hL]; simp; omega
    have hLm : L[m]? = some l[m] := by rw [hL, List.getElem?_take_of_lt (by omega), List.getElem?_eq_getElem hlt]
    obtain ⟨_, hLe⟩ := List.getElem?_eq_some_iff.1 hLm
    obtain ⟨D, hD⟩ : ∃ D, D = l.drop (m + 1) := ⟨_, rfl⟩
    have hDl : D.length = l.length - (m + 1) := by rw [hD]; simp
    have hLD : encD L ++ encD D = encD l := by rw [← enc_appD, hL, hD, List.take_append_drop]
    have hg : l[m]? = some l[m] := List.getElem?_eq_getElem hlt
    have hmi : (m : Int) < (m : Int) + 1 := by omega
    have hpos : (0 : Int) < (m : Int) + 1 := by omega
    simp only [← hL, ← hD]
    by_cases hz : l[m] = 0
    · have ht : (encD l).take m = encD (l.take m) := by rw [enc_takeD]
      have hdd : ((encD l).drop m).take (m + 1 + D.length - m) = encD (l.drop m) := by rw [enc_dropD, enc_takeD, List.take_of_length_le (by simp; omega)]
      simp [hw, hw', hLl, hg, hmi, hpos, hz, hLD, ht, hdd, hlt, show m ≤ m + 1 + D.length by omega]
      refine h1 _ m ⟨by omega, fun k hk hk' => ?_⟩ (by simp) (sub_iff ?_)
      · by_cases e : k = m
        · subst e; simp [hlt, hz]
        · exact hn.2 k (by omega) hk'
      · simp
    · simp [hw, hw', hLl, hg, hmi, hpos, hz, hLD, hlt]
      refine h2 _ _ (by simp) ?_
      simp
      rw [hL]
      exact fin (fun k hk => by
        have : k = m := by omega
        subst this
        simp [hlt, hz])
end Go.Dl
