/- Contracts of hornbeam/nat: those that change their limbs. Contracts of hornbeam/nat: more of them. -/
import Derived.Test.YtjmhdfcmghmgjaaDoorNtB
set_option linter.unusedVariables false
set_option linter.unusedSimpArgs false
set_option maxRecDepth 1000000
namespace Go.Dl
open Go.Proofs

theorem t_less (l t : List Nat) (room b : Nat) (hb : 0 < b) (hb' : b < 4294967296) (hl : OkL l) (hlen : l.length ≤ 1000000) :
    MCall Tryd.prog 78 [.own 1000 1 0 l.length room, .p (.int .u32 (U b))] [(1000, ⟨false, 1, .p (enc (l ++ t))⟩)]
      (fun r H => ∃ q, q.length = l.length ∧ OkL q ∧ val q = val l / b ∧ lk H 1000 = some ⟨false, 1, .p (enc (q ++ t))⟩ ∧ r = .p (.int .u32 (U (val l % b)))) := by
  refine mcall_vc c_less (by simp [c_less]) (by simp [c_less]) fun x K hK => ?_
  simp [c_less]
  refine vc_loop .wide (fun y : Nat × List Nat × Nat => ⟨36, [(6, .p (.int .i64 ((y.1 : Int) - 1))), (5, .p (.int .u64 (U y.2.2))), (0, .own 1000 1 0 l.length room), (1, .p (.int .u32 (U b)))], [(1000, ⟨false, 1, .p (enc (l.take y.1 ++ y.2.1 ++ t))⟩)]⟩)
    (fun y => y.1 ≤ l.length ∧ y.2.1.length = l.length - y.1 ∧ OkL y.2.1 ∧ y.2.2 < b ∧ val (l.drop y.1) = b * val y.2.1 + y.2.2) (fun y => y.1) (l.length, [], 0) ⟨Nat.le_refl _, by simp, by simp [OkL], hb, by simp [val]⟩ ?_ ?_
  · refine sub_iff ?_
    have hw : IntKind.i64.wrap ((l.length : Int) - 1) = (l.length : Int) - 1 := wrap_i64 (by omega)
    simp [hw]
  · rintro ⟨k, q, r⟩ ⟨h1, h2, h3, h4, h5⟩ Q g1 g2
    simp only at h1 h2 h3 h4 h5
    by_cases h0 : k = 0
    · subst h0
      simp
      refine g2 _ _ (by simp) ?_
      simp
      simp at h5
      refine hK _ _ ⟨q, by omega, h3, ?_, by simp, ?_⟩
      · rw [h5, Nat.mul_add_div hb, Nat.div_eq_of_lt h4]; omega
      · rw [h5, Nat.mul_add_mod, Nat.mod_eq_of_lt h4, Nat.mod_eq_of_lt (by omega)]
    · obtain ⟨m, rfl⟩ : ∃ m, k = m + 1 := ⟨k - 1, by omega⟩
      have hlt : m < l.length := by omega
      have hd : l[m] < 4294967296 := hl _ (List.getElem_mem hlt)
      obtain ⟨cur, hcur⟩ : ∃ c, c = l.take (m + 1) ++ q ++ t := ⟨_, rfl⟩
      have hg : cur[m]? = some l[m] := by
        rw [hcur, List.append_assoc, List.getElem?_append_left (by simp; omega), List.getElem?_take_of_lt (by omega), List.getElem?_eq_getElem hlt]
      have hn : (r * 4294967296 % 18446744073709551616 ||| l[m] % 18446744073709551616) = r * 4294967296 + l[m] := by
        rw [Nat.mod_eq_of_lt (a := r * 4294967296) (by omega), Nat.mod_eq_of_lt (a := l[m]) (by omega)]
        exact or_limbs r l[m] hd
      have hb64 : b % 18446744073709551616 = b := Nat.mod_eq_of_lt (by omega)
      have hb0 : ¬ b = 0 := by omega
      have hx : (r * 4294967296 + l[m]) / b < 4294967296 := (Nat.div_lt_iff_lt_mul hb).2 (by
        have : (r + 1) * 4294967296 ≤ b * 4294967296 := Nat.mul_le_mul_right _ h4
        omega)
      have hx1 : (r * 4294967296 + l[m]) / b % 18446744073709551616 = (r * 4294967296 + l[m]) / b := Nat.mod_eq_of_lt (by omega)
      have hx2 : (r * 4294967296 + l[m]) / b % 4294967296 = (r * 4294967296 + l[m]) / b := Nat.mod_eq_of_lt hx
      have hw : IntKind.i64.wrap ((m : Int) - 1) = (m : Int) - 1 := wrap_i64 (by omega)
      have hset : cur.set m ((r * 4294967296 + l[m]) / b) = l.take m ++ (((r * 4294967296 + l[m]) / b) :: q) ++ t := by
        rw [hcur, List.append_assoc, List.set_append_left _ _ (by simp; omega)]
        rw [← List.take_append_getElem hlt, List.set_append_right _ _ (by simp; omega)]
        simp [Nat.min_eq_left (Nat.le_of_lt hlt)]
      simp only [← hcur]
      simp [hw, hlt, hg, hn, hb64, hb0, hx1, hx2, hset]
      refine g1 _ (m, ((r * 4294967296 + l[m]) / b) :: q, (r * 4294967296 + l[m]) % b) ⟨by omega, by simp [h2]; omega, ?_, Nat.mod_lt _ hb, ?_⟩ (by simp) (sub_iff ?_)
      · intro d hd'
        rcases List.mem_cons.1 hd' with rfl | hd'
        · exact hx
        · exact h3 d hd'
      · simp only
        rw [List.drop_eq_getElem_cons hlt, val, val, h5]
        have key : ∀ u v X : Nat, b * u + v = X → X = r * 4294967296 + l[m] → l[m] + 4294967296 * (b * val q + r) = b * (u + 4294967296 * val q) + v := by
          intro u v X k1 k2
          rw [Nat.mul_add b, Nat.mul_left_comm b 4294967296]
          omega
        exact key _ _ _ (Nat.div_add_mod _ b) rfl
      · simp
end Go.Dl
set_option linter.unusedVariables false
set_option linter.unusedSimpArgs false
set_option maxRecDepth 1000000
namespace Go.Dl
open Go.Proofs

@[simp] theorem enc_getElem (l : List Nat) (i : Nat) (h : i < (enc l).length) : (enc l)[i] = [PV.int .u32 (U (l[i]'(by simpa using h)))] := by simp [enc]
theorem maxLen_eq : maxLen = 9223372036854775807 := by decide

theorem t_clone32 (l : List Nat) (h0 : l ≠ []) (hlen : l.length ≤ 1000000) :
    MCall Tryd.prog 77 [.p (.sl none 1 (enc l) [])] [] (fun r H => ∃ k, r = .own k 1 0 l.length l.length ∧ lk H k = some ⟨false, 1, .p (enc l)⟩) := by
  refine MCall.nilcase [] ?_ ?_
  · refine mcall_vc c_clone32 (by simp [c_clone32]) (by simp [c_clone32]) fun x K hK => ?_
    simp [c_clone32, maxLen_eq, show l.length * 4 ≤ 140737488355328 by omega, show l.length ≤ 9223372036854775807 by omega]
    exact hK _ _ ⟨7, rfl, by simp⟩
  · intro h
    exact (h0 (by simpa [enc] using h)).elim

theorem t_zero (n : Nat) : PCall Tryd.prog 67 [encNat n] (· = .bool (decide (n = 0))) := by
  refine pcall_vc c_zero (by simp [c_zero]) fun x K hK => ?_
  simp [c_zero, encNat]
  refine hK _ ?_
  congr 1
  by_cases h : n = 0
  · subst h; simp [limbs_zero]
  · have : ¬ (limbs n).length = 0 := fun e => h (limbs_len_zero.1 e)
    simp [h]
    intro e
    exact this (by rw [e]; rfl)
theorem t_at (n i : Nat) : PCall Tryd.prog 101 [encNat n, .int .i64 (i : Int)] (· = .int .u32 (U ((limbs n)[i]?.getD 0))) := by
  refine pcall_vc c_at (by simp [c_at]) fun x K hK => ?_
  by_cases h : i < (limbs n).length
  · simp [c_at, encNat, h, show ¬ (limbs n).length ≤ i by omega]
    exact hK _ (by simp [h])
  · simp [c_at, encNat, h, show (limbs n).length ≤ i by omega]
    exact hK _ (by simp [h])
theorem t_of (v : Nat) (hv : v < 18446744073709551616) : PCall Tryd.prog 72 [.int .u64 (U v)] (· = encNat v) := by
  refine pcall_vc c_of (by simp [c_of]) fun x K hK => ?_
  simp [c_of]
  have hv2 : v = val [v % 4294967296, v / 4294967296 % 4294967296] := by simp only [val]; omega
  refine oks_callz [9] .wide [.sl none 1 (enc [v % 4294967296, v / 4294967296 % 4294967296]) []] (t_trim none _ _ ?_) (by simp) (by simp; rfl) (by simp [enc]) ?_
  · intro d hd
    simp at hd
    omega
  · rintro r rfl
    rw [← hv2]
    refine oks_vc .wide ?_
    simp [encNat]
    exact hK _ (by simp [encNat])
end Go.Dl
