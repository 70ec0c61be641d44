/- Contracts of hornbeam/nat: Cmp. Contracts of hornbeam/nat: more. -/
import Derived.Test.YtjmhdfcmghmgjaaDoorNtD
set_option linter.unusedVariables false
set_option linter.unusedSimpArgs false
set_option maxRecDepth 1000000
namespace Go.Dl
open Go.Proofs

theorem digit_eq (n i : Nat) : (limbs n)[i]?.getD 0 = n / 4294967296 ^ i % 4294967296 := by
  induction i generalizing n with
  | zero =>
    by_cases h : n = 0
    · subst h; simp [limbs_zero]
    · rw [limbs_pos h]; simp
  | succ i ih =>
    by_cases h : n = 0
    · subst h; simp [limbs_zero]
    · rw [limbs_pos h, List.getElem?_cons_succ, ih, Nat.pow_succ, Nat.mul_comm, Nat.div_div_eq_div_mul]
theorem digit_step (n m : Nat) : n / 4294967296 ^ m = n / 4294967296 ^ (m + 1) * 4294967296 + n / 4294967296 ^ m % 4294967296 := by
  rw [Nat.pow_succ, ← Nat.div_div_eq_div_mul]
  generalize n / 4294967296 ^ m = u
  omega
theorem above (n k : Nat) (h : (limbs n).length ≤ k) : n / 4294967296 ^ k = 0 := by
  refine Nat.div_eq_of_lt ?_
  have := val_lt (limbs_ok n)
  rw [val_limbs] at this
  exact Nat.lt_of_lt_of_le this (Nat.pow_le_pow_right (by omega) h)

def cmpI (a b : Nat) : Int := if a < b then -1 else if a = b then 0 else 1

theorem t_cmp (a b : Nat) : PCall Tryd.prog 80 [encNat a, encNat b] (· = .int .i64 (cmpI a b)) := by
  refine PCall.lens fun hlen => ?_
  have hla : (limbs a).length ≤ 9223372036854775807 := by
    have := hlen (encNat a) (by simp) none 1 (enc (limbs a)) [] (by simp)
    simpa using this
  have hlb : (limbs b).length ≤ 9223372036854775807 := by
    have := hlen (encNat b) (by simp) none 1 (enc (limbs b)) [] (by simp)
    simpa using this
  refine pcall_vc c_cmp (by simp [c_cmp]) fun x K hK => ?_
  simp [c_cmp, encNat]
  refine vc_loop .wide (fun k : Nat => ⟨34, [(5, .p (.int .i64 ((k : Int) - 1))), (2, .ptr 2 1 0 0), (3, .ptr 3 1 0 0)], [(2, ⟨false, 1, .p [[.sl none 1 (enc (limbs a)) []]]⟩), (3, ⟨false, 1, .p [[.sl none 1 (enc (limbs b)) []]]⟩)]⟩)
    (fun k => k ≤ 9223372036854775807 ∧ a / 4294967296 ^ k = b / 4294967296 ^ k) (fun k => k) (max (limbs a).length (limbs b).length) ⟨by omega, by rw [above a _ (by omega), above b _ (by omega)]⟩ ?_ ?_
  · refine sub_iff ?_
    have hw : IntKind.i64.wrap (max ((limbs a).length : Int) ((limbs b).length : Int) - 1) = ((max (limbs a).length (limbs b).length : Nat) : Int) - 1 := by
      rw [wrap_i64 (by omega)]; omega
    simp [hw]
  · rintro k ⟨hk, h1⟩ Q g1 g2
    by_cases h0 : k = 0
    · subst h0
      simp
      refine g2 _ _ (by simp) ?_
      simp at h1
      simp
      exact hK _ (by simp [cmpI, h1])
    · obtain ⟨m, rfl⟩ : ∃ m, k = m + 1 := ⟨k - 1, by omega⟩
      have hw : IntKind.i64.wrap ((m : Int) - 1) = (m : Int) - 1 := wrap_i64 (by omega)
      simp
      refine vc_draw .wide rfl ?_
      simp
      refine dcall_pz [encNat a, .int .i64 (m : Int)] _ (t_at a m) (by simp; rfl) (by simp [encNat]) ?_
      simp
      refine dcall_pz [encNat b, .int .i64 (m : Int)] _ (t_at b m) (by simp; rfl) (by simp [encNat]) ?_
      have ea := digit_step a m
      have eb := digit_step b m
      rw [← digit_eq, h1] at ea
      rw [← digit_eq] at eb
      have lt_of : ∀ u v : Nat, u / 4294967296 ^ m < v / 4294967296 ^ m → u < v := fun u v h => Nat.lt_of_not_le fun h' => by
        have := Nat.div_le_div_right (c := 4294967296 ^ m) h'
        omega
      simp [hw]
      refine ⟨fun h => g2 _ _ (by simp) ?_, fun h => ⟨fun h' => g2 _ _ (by simp) ?_, fun h' => g1 _ m ⟨by omega, by omega⟩ (by omega) (sub_iff (by simp))⟩⟩
      · simp
        exact hK _ (by simp [cmpI, lt_of a b (by omega)])
      · simp
        have := lt_of b a (by omega)
        exact hK _ (by simp [cmpI, show ¬ a < b by omega, show ¬ a = b by omega])
end Go.Dl
set_option linter.unusedVariables false
set_option linter.unusedSimpArgs false
set_option maxRecDepth 1000000
namespace Go.Dl
open Go.Proofs

theorem OkL.app {a b : List Nat} (ha : OkL a) (hb : OkL b) : OkL (a ++ b) := fun d hd => by
  rcases List.mem_append.1 hd with h | h
  · exact ha d h
  · exact hb d h
theorem OkL.one {d : Nat} (h : d < 4294967296) : OkL [d] := fun e he => by simp at he; omega

theorem more_law (A p V c d b e : Nat) (h : V + p * c = A * b + e) (X : Nat) (hX : X = c + d * b) : V + p * (X % 4294967296) + p * 4294967296 * (X / 4294967296) = (A + p * d) * b + e := by
  have h1 := Nat.mod_add_div X 4294967296
  have h2 : p * (X % 4294967296) + p * 4294967296 * (X / 4294967296) = p * X := by
    rw [Nat.mul_assoc, ← Nat.mul_add, h1]
  have h3 : p * X = p * c + p * d * b := by rw [hX, Nat.mul_add, Nat.mul_assoc]
  rw [Nat.add_assoc, h2, h3, Nat.add_mul]
  omega

theorem set_at (a l : List Nat) (v : Nat) (h : a.length < l.length) : (a ++ l.drop a.length).set a.length v = (a ++ [v]) ++ l.drop (a.length + 1) := by
  rw [List.set_append_right _ _ (Nat.le_refl _), Nat.sub_self, List.drop_eq_getElem_cons h, List.set_cons_zero, List.append_assoc]
  rfl

theorem t_more (l : List Nat) (room b e : Nat) (hb : b < 4294967296) (he : e < 4294967296) (hl : OkL l) (hlen : l.length ≤ 1000000) :
    MCall Tryd.prog 65 [.own 1000 1 0 l.length room, .p (.int .u32 (U b)), .p (.int .u32 (U e))] [(1000, ⟨false, 1, .p (enc l)⟩)]
      (fun r H => ∃ k room' q, r = .own k 1 0 q.length room' ∧ lk H k = some ⟨false, 1, .p (enc q)⟩ ∧ OkL q ∧ q.length ≤ l.length + 1 ∧ l.length ≤ q.length ∧ val q = val l * b + e) := by
  refine mcall_vc c_more (by simp [c_more]) (by simp [c_more]) fun x K hK => ?_
  have he64 : e % 18446744073709551616 = e := Nat.mod_eq_of_lt (by omega)
  have hb64 : b % 18446744073709551616 = b := Nat.mod_eq_of_lt (by omega)
  simp [c_more]
  refine vc_loop .wide (fun y : List Nat × Nat => ⟨43, [(13, .p (.int .i64 (y.1.length : Int))), (12, .p (.int .i64 (l.length : Int))), (7, .p (.int .u64 (U y.2))), (0, .own 1000 1 0 l.length room), (1, .p (.int .u32 (U b)))],
      [(1000, ⟨false, 1, .p (enc (y.1 ++ l.drop y.1.length))⟩)]⟩)
    (fun y => y.1.length ≤ l.length ∧ OkL y.1 ∧ y.2 < 4294967296 ∧ val y.1 + 4294967296 ^ y.1.length * y.2 = val (l.take y.1.length) * b + e) (fun y => l.length - y.1.length) ([], e) ⟨by simp, by simp [OkL], he, by simp [val]⟩ ?_ ?_
  · refine sub_iff ?_
    simp [he64]
  · rintro ⟨q, c⟩ ⟨h1, h2, h3, h4⟩ Q g1 g2
    simp only at h1 h2 h3 h4
    by_cases h0 : q.length = l.length
    · simp [h0]
      refine g2 _ _ (by simp) ?_
      rw [h0, List.take_length] at h4
      by_cases hc : c = 0
      · subst hc
        simp [List.drop_length]
        refine hK _ _ ⟨1000, room, q, by rw [h0], by simp, h2, by omega, by omega, by simpa using h4⟩
      · have hc32 : c % 4294967296 = c := Nat.mod_eq_of_lt h3
        simp [List.drop_length, show 0 < c by omega, hc, hc32, maxLen_eq, h0, show (l.length + 1) * 4 ≤ 140737488355328 by omega, show l.length + 1 ≤ 9223372036854775807 by omega]
        refine hK _ _ ⟨41, l.length + 1, q ++ [c], by simp [h0], by simp [enc, h0, List.take_of_length_le], h2.app (OkL.one h3), by simp [h0], by simp [h0], ?_⟩
        rw [val_append, h0, ← h4]
        simp [val]
    · have hlt : q.length < l.length := by omega
      have hd : l[q.length] < 4294967296 := hl _ (List.getElem_mem hlt)
      obtain ⟨X, hX⟩ : ∃ X, X = c + l[q.length] * b := ⟨_, rfl⟩
      have hXl : X < 18446744073709551616 := by
        have : l[q.length] * b ≤ 4294967295 * 4294967295 := Nat.mul_le_mul (by omega) (by omega)
        omega
      have hd64 : l[q.length] % 18446744073709551616 = l[q.length] := Nat.mod_eq_of_lt (by omega)
      have hm64 : l[q.length] * b % 18446744073709551616 = l[q.length] * b := Nat.mod_eq_of_lt (by omega)
      have hX64 : (c + l[q.length] * b) % 18446744073709551616 = X := by rw [← hX]; exact Nat.mod_eq_of_lt hXl
      have hw : IntKind.i64.wrap ((q.length : Int) + 1) = (q.length : Int) + 1 := wrap_i64 (by omega)
      obtain ⟨cur, hcur⟩ : ∃ u, u = q ++ l.drop q.length := ⟨_, rfl⟩
      have hg : cur[q.length]? = some l[q.length] := by
        rw [hcur, List.getElem?_append_right (Nat.le_refl _), Nat.sub_self]; simp [hlt]
      have hset : cur.set q.length (X % 4294967296) = (q ++ [X % 4294967296]) ++ l.drop (q.length + 1) := by rw [hcur, set_at q l _ hlt]
      simp only [← hcur]
      simp [hlt, hg, hb64, hd64, hm64, hX64, hw, hset]
      refine g1 _ (q ++ [X % 4294967296], X / 4294967296) ⟨by simp; omega, h2.app (OkL.one (by omega)), by simp only; omega, ?_⟩ (by simp; omega) (sub_iff (by simp))
      simp only [List.length_append, List.length_cons, List.length_nil]
      rw [val_append, ← List.take_append_getElem hlt, val_append, List.length_take, Nat.min_eq_left (by omega)]
      have := more_law _ _ _ _ l[q.length] b e h4 X hX
      simpa [val, Nat.pow_succ, Nat.add_assoc] using this
end Go.Dl
