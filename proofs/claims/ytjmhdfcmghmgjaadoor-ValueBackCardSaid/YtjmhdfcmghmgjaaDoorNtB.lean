/- Contracts of hornbeam/nat: the small ones. -/
import Derived.Test.YtjmhdfcmghmgjaaDoorNtA
import Derived.Test.YtjmhdfcmghmgjaaDoorDlR
set_option linter.unusedVariables false
set_option linter.unusedSimpArgs false
set_option maxRecDepth 1000000
namespace Go.Dl
open Go.Proofs

theorem t_trim (o : Option Bool) (l : List Nat) (sp : List (List PV)) (hl : OkL l) : PCall Tryd.prog 66 [.sl o 1 (enc l) sp] (· = encNat (val l)) := by
  refine PCall.lens fun hlen => ?_
  have hlen : l.length ≤ 9223372036854775807 := by simpa [PV.lenok] using hlen
  refine pcall_vc c_trim (by simp [c_trim]) fun x K hK => ?_
  simp [c_trim]
  refine vc_loop .wide (fun n : Nat => ⟨23, [(3, .p (.int .i64 n)), (0, .p (.sl o 1 (enc l) sp)), (2, .ptr 2 1 0 0)], [(2, ⟨false, 1, .p [[.sl (some true) 0 [] []]]⟩)]⟩)
    (fun n => n ≤ l.length ∧ ∀ k, n ≤ k → k < l.length → l[k]? = some 0) id l.length ⟨Nat.le_refl _, by omega⟩ ?_ ?_
  · refine sub_iff ?_
    simp
  · intro n hn Q h1 h2
    have fin : (∀ k, n = k + 1 → l[k]? ≠ some 0) → K (PV.agg [PV.sl none 1 (enc (l.take n)) []]) := fun h0 => by
      rw [take_limbs hl n hn.1 hn.2 h0]
      exact hK _ rfl
    by_cases h0 : n = 0
    · subst h0
      simp
      refine h2 _ _ (by simp) ?_
      simp
      simpa using fin (by omega)
    · obtain ⟨m, rfl⟩ : ∃ m, n = m + 1 := ⟨n - 1, by omega⟩
      have hw : IntKind.i64.wrap (m : Int) = m := wrap_i64 (by omega)
      have hlt : m < l.length := by omega
      have hg : (enc l ++ sp)[m]? = some [.int .u32 (U l[m])] := by rw [List.getElem?_append_left (by simpa using hlt), enc_get, List.getElem?_eq_getElem hlt]; rfl
      by_cases hz : l[m] = 0
      · simp [hw, hlt, hz, hg]
        refine h1 _ m ⟨by omega, fun k hk hk' => ?_⟩ (by simp) (sub_iff (by simp))
        by_cases e : k = m
        · subst e; simp [hlt, hz]
        · exact hn.2 k (by omega) hk'
      · simp [hw, hlt, hz, hg]
        refine h2 _ _ (by simp) ?_
        have := fin (fun k hk => by
          have : k = m := by omega
          subst this
          simp [hlt, hz])
        simp [enc_take, hn.1, show (0:Int) ≤ (m:Int) + 1 by omega, show m + 1 ≤ l.length + sp.length by omega, List.take_append_of_le_length]
        exact this
end Go.Dl
