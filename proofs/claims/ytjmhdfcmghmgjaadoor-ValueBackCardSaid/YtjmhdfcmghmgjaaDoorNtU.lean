/- Contracts of hornbeam/nat: DivMod, Gcd. -/
import Derived.Test.YtjmhdfcmghmgjaaDoorNtT
set_option linter.unusedVariables false
set_option linter.unusedSimpArgs false
set_option maxRecDepth 1000000
namespace Go.Dl
open Go.Proofs

theorem t_divmod (a b : Nat) (hb0 : b ≠ 0) (ha : (limbs a).length ≤ 800000) (hb : (limbs b).length ≤ 800000) : PCall Tryd.prog 91 [encNat a, encNat b] (· = .tup [encNat (a / b), encNat (a % b), .bool true]) := by
  refine pcall_vcz c_divmod (by simp [c_divmod]) fun x K hK => ?_
  simp [c_divmod]
  refine oks_callz [] .wide [encNat b] (t_zero b) (by simp) (by simp; rfl) (by simp [encNat]) ?_
  rintro _ rfl
  refine oks_vc .wide ?_
  simp [hb0]
  refine oks_callz [] .wide [encNat a, encNat b] (t_cmp a b) (by simp) (by simp; rfl) (by simp [encNat]) ?_
  rintro _ rfl
  refine oks_vc .wide ?_
  by_cases hlt : a < b
  · have hc : cmpI a b = -1 := by simp [cmpI, hlt]
    simp [hc]
    refine vc_drawS .wide [(2, 4), (3, 5)] rfl ?_
    simp
    refine hK _ _ rfl ?_
    simp [encNat, Nat.div_eq_of_lt hlt, Nat.mod_eq_of_lt hlt, limbs_zero]
  · have hc : ¬ cmpI a b < 0 := by unfold cmpI; split <;> (try split) <;> omega
    have ha0 : a ≠ 0 := by omega
    simp [hc]
    refine ⟨fun h1 => ?_, fun h1 => ?_⟩
    · have h1 : (limbs b).length = 1 := by omega
      have hbW : b < 4294967296 := by have := limbs_lt b; rw [h1] at this; simpa using this
      have hbL : limbs b = [b] := by rw [limbs_pos hb0, Nat.div_eq_of_lt hbW, limbs_zero, Nat.mod_eq_of_lt hbW]
      have hAne : limbs a ≠ [] := by rw [limbs_pos ha0]; simp
      obtain ⟨A, hA⟩ : ∃ A, A = limbs a := ⟨_, rfl⟩
      have okA : OkL A := hA ▸ limbs_ok a
      have vA : val A = a := by rw [hA, val_limbs]
      rw [← hA] at ha hAne
      simp only [← hA, hbL]
      have hls := t_less A [] A.length b (by omega) hbW okA (by omega)
      rw [vA, List.append_nil] at hls
      refine oks_calln .wide (ps := [.sl none 1 (enc A) []]) (by simp) (by simp) (t_clone32 A hAne (by omega)) ?_
      rintro _ H ⟨k, rfl, hH⟩
      refine ⟨k, 1, 0, _, _, _, rfl, hH, oks_vc .wide ?_⟩
      simp
      refine oks_callb .wide 30 (by simp) (by simp; exact ⟨rfl, rfl⟩) (by simpa using hls) ?_
      rintro _ H ⟨q, g1, g2, g3, hH, rfl⟩
      refine ⟨_, hH, oks_vc .wide ?_⟩
      have hm : a % b % 18446744073709551616 = a % b := Nat.mod_eq_of_lt (Nat.lt_trans (Nat.mod_lt _ (by omega)) (by omega))
      have hcut : (enc q).take A.length = enc q := List.take_of_length_le (by simp [g1])
      simp
      refine oks_callz [30] .wide [.sl none 1 (enc q) []] (t_trim none q [] g2) (by simp) (by simp [g1]; rfl) (by simp [hcut]) ?_
      rintro _ rfl
      refine oks_vc .wide ?_
      rw [g3]
      simp [encNat, hm]
      refine oks_callz [] .wide [.int .u64 (U (a % b))] (t_of (a % b) (Nat.lt_trans (Nat.mod_lt _ (by omega)) (by omega))) (by simp) (by simp; rfl) (by simp) ?_
      rintro _ rfl
      refine oks_vc .wide ?_
      simp [encNat]
      exact hK _ _ rfl (by simp [encNat])
    · obtain ⟨n, hn⟩ : ∃ n, (limbs b).length = n + 2 := by
        have : (limbs b).length ≠ 0 := fun e => hb0 (limbs_len_zero.1 e)
        exact ⟨(limbs b).length - 2, by omega⟩
      refine oks_callz [] .wide [encNat a, encNat b] (t_long a b n hn (by omega) ha) (by simp) (by simp; rfl) (by simp [encNat]) ?_
      rintro _ rfl
      refine oks_vc .wide ?_
      simp [encNat]
      refine vc_drawS .wide [(2, 4), (3, 5)] rfl ?_
      simp
      exact hK _ _ rfl (by simp [encNat])

def gcI (a b : Nat) : St := ⟨21, [(4, .ptr 4 1 0 0), (3, .ptr 3 1 0 0), (2, .ptr 2 1 0 0)], [(4, ⟨false, 1, .p [[.sl (some true) 0 [] []]]⟩), (3, ⟨false, 1, .p [[.sl none 1 (enc (limbs b)) []]]⟩), (2, ⟨false, 1, .p [[.sl none 1 (enc (limbs a)) []]]⟩)]⟩
theorem limbs_mono {a b : Nat} (h : a ≤ b) : (limbs a).length ≤ (limbs b).length := by
  rcases Nat.eq_zero_or_pos (limbs a).length with h0 | h0
  · omega
  · obtain ⟨k, hk⟩ : ∃ k, (limbs a).length = k + 1 := ⟨(limbs a).length - 1, by omega⟩
    have h1 := limbs_ge _ k hk
    have h2 := limbs_lt b
    have := (Nat.pow_lt_pow_iff_right (by decide : 1 < 4294967296)).1 (Nat.lt_of_le_of_lt (Nat.le_trans h1 h) h2)
    omega
theorem t_gcd (a b : Nat) (ha : (limbs a).length ≤ 800000) (hb : (limbs b).length ≤ 800000) : PCall Tryd.prog 90 [encNat a, encNat b] (· = encNat (Nat.gcd a b)) := by
  refine pcall_vcz c_gcd (by simp [c_gcd]) fun x K hK => ?_
  simp [c_gcd, encNat]
  refine vc_loop .wide (fun y : Nat × Nat => gcI y.1 y.2) (fun y => (limbs y.1).length ≤ 800000 ∧ (limbs y.2).length ≤ 800000 ∧ Nat.gcd y.1 y.2 = Nat.gcd a b) (fun y => y.2) (a, b) ⟨ha, hb, rfl⟩ (sub_iff (by simp [gcI])) ?_
  rintro ⟨u, v⟩ ⟨h1, h2, h3⟩ Q k1 k2
  simp only at h1 h2 h3
  simp [gcI]
  refine oks_callz [] .wide [encNat v] (t_zero v) (by simp) (by simp; rfl) (by simp [encNat]) ?_
  rintro _ rfl
  refine oks_vc .wide ?_
  by_cases hv : v = 0
  · subst hv
    rw [Nat.gcd_zero_right] at h3
    simp
    refine k2 _ _ (by simp) ?_
    simp
    exact hK _ _ rfl (by simp [encNat, h3])
  · simp [hv]
    refine oks_callz [] .wide [encNat u, encNat v] (t_divmod u v hv h1 h2) (by simp) (by simp; rfl) (by simp [encNat]) ?_
    rintro _ rfl
    refine oks_vc .wide ?_
    simp [encNat]
    refine vc_drawS .wide [(2, 2), (3, 3)] rfl ?_
    simp
    have hlt : u % v < v := Nat.mod_lt _ (by omega)
    refine k1 _ (v, u % v) ⟨h2, Nat.le_trans (limbs_mono (Nat.le_of_lt hlt)) h2, ?_⟩ (by simpa using hlt) (sub_iff (by simp [gcI]))
    rw [← h3]
    simp only
    rw [Nat.gcd_comm u v, Nat.gcd_rec v u, Nat.gcd_comm]
end Go.Dl
