/- Contracts of hornbeam/nat: trim of limbs of one's own. -/
import Derived.Test.YtjmhdfcmghmgjaaDoorNtI
set_option linter.unusedVariables false
set_option linter.unusedSimpArgs false
set_option maxRecDepth 1000000
namespace Go.Dl
open Go.Proofs

theorem t_trimM (l t : List Nat) (room : Nat) (hroom : l.length ≤ room) (hl : OkL l) (hlen : l.length ≤ 1000000) : MCall Tryd.prog 66 [.own 1000 1 0 l.length room] [(1000, ⟨false, 1, .p (enc (l ++ t))⟩)]
    (fun r H => ∃ n, n ≤ l.length ∧ l.take n = limbs (val l) ∧ r = .agg [.own 1000 1 0 n n] ∧ lk H 1000 = some ⟨false, 1, .p (enc (l ++ t))⟩) := by
  refine mcall_vc c_trim (by simp [c_trim]) (by simp [c_trim]) fun x K hK => ?_
  simp [c_trim]
  refine vc_loop .wide (fun n : Nat => ⟨23, [(3, .p (.int .i64 n)), (0, .own 1000 1 0 l.length room), (2, .ptr 2 1 0 0)], [(2, ⟨false, 1, .p [[.sl (some true) 0 [] []]]⟩), (1000, ⟨false, 1, .p (enc (l ++ t))⟩)]⟩)
    (fun n => n ≤ l.length ∧ ∀ k, n ≤ k → k < l.length → l[k]? = some 0) id l.length ⟨Nat.le_refl _, by omega⟩ ?_ ?_
  · refine sub_iff ?_
    simp
  · intro n hn Q h1 h2
    have fin : ∀ H, (∀ k, n = k + 1 → l[k]? ≠ some 0) → lk H 1000 = some ⟨false, 1, .p (enc (l ++ t))⟩ → K (.agg [.own 1000 1 0 n n]) H := fun H h0 hH => hK _ _ ⟨n, hn.1, take_limbs hl n hn.1 hn.2 h0, rfl, hH⟩
    by_cases h0 : n = 0
    · subst h0
      simp
      refine h2 _ _ (by simp) ?_
      simp
      exact fin _ (by omega) (by simp)
    · obtain ⟨m, rfl⟩ : ∃ m, n = m + 1 := ⟨n - 1, by omega⟩
      have hw : IntKind.i64.wrap (m : Int) = m := wrap_i64 (by omega)
      have hlt : m < l.length := by omega
      have hg : (l ++ t)[m]? = some l[m] := by rw [List.getElem?_append_left hlt, List.getElem?_eq_getElem hlt]
      by_cases hz : l[m] = 0
      · simp [hw, hlt, hz, hg]
        refine h1 _ m ⟨by omega, fun k hk hk' => ?_⟩ (by simp) (sub_iff (by simp))
        by_cases e : k = m
        · subst e; simp [hlt, hz]
        · exact hn.2 k (by omega) hk'
      · simp [hw, hlt, hz, hg]
        refine h2 _ _ (by simp) ?_
        simp [hn.1, show (0:Int) ≤ (m:Int) + 1 by omega, show m + 1 ≤ room by omega]
        exact fin _ (fun k hk => by
          have : k = m := by omega
          subst this
          simp [hlt, hz]) (by simp)
end Go.Dl
