/- Contracts of hornbeam/nat: Text. -/
import Derived.Test.YtjmhdfcmghmgjaaDoorNtM
set_option linter.unusedVariables false
set_option linter.unusedSimpArgs false
set_option maxRecDepth 1000000
namespace Go.Dl
open Go.Proofs

structure TxY where
  l : List Nat
  t : List Nat
  room : Nat
  out : List Nat
def outV : List Nat → DV
  | [] => .p (.sl (some true) 0 [] [])
  | d :: r => .own 27 1 0 (d :: r).length (d :: r).length
def outH : List Nat → List (Nat × Ob)
  | [] => []
  | d :: r => [(27, ⟨false, 1, .p (encB (d :: r))⟩)]
def txI (y : TxY) : St := ⟨36, [(4, .own 10 1 0 y.l.length y.room), (3, outV y.out)], (10, ⟨false, 1, .p (enc (y.l ++ y.t))⟩) :: outH y.out⟩
def txJ (y : TxY) (z : Nat × Nat × List Nat) : St := ⟨36, [(19, .p (.int .i64 (z.1 : Int))), (5, .p (.int .u32 (U z.2.1))), (4, .own 10 1 0 y.l.length y.room), (3, outV z.2.2)], (10, ⟨false, 1, .p (enc (y.l ++ y.t))⟩) :: outH z.2.2⟩

theorem limbs_top (v : Nat) : ∀ k, (limbs v).length = k + 1 → (limbs v)[k]? ≠ some 0 := by
  induction v using Nat.strongRecOn with
  | ind v ih =>
    intro k hk
    by_cases h : v = 0
    · rw [h, limbs_zero] at hk; simp at hk
    · rw [limbs_pos h] at hk ⊢
      cases k with
      | zero =>
        simp at hk
        have : v / 4294967296 = 0 := limbs_len_zero.1 (by rw [hk]; rfl)
        simp; omega
      | succ k => simpa using ih _ (by omega) k (by simpa using hk)
theorem dig_mod (a j : Nat) (hj : j < 9) : a % 1000000000 / 10 ^ j % 10 = a / 10 ^ j % 10 := by
  have e : (1000000000 : Nat) = 10 ^ j * 10 ^ (9 - j) := by rw [← Nat.pow_add, show j + (9 - j) = 9 by omega]
  rw [e, Nat.mod_mul_right_div_self, Nat.mod_mod_of_dvd]
  exact ⟨10 ^ (8 - j), by rw [show 9 - j = (8 - j) + 1 by omega, Nat.pow_succ, Nat.mul_comm]⟩
theorem log_bound (l : List Nat) (k : Nat) (h : OkL l) (hk : 10 ^ k ≤ val l) : k < 32 * l.length := by
  have h1 := val_lt h
  rw [show (4294967296 : Nat) = 2 ^ 32 from rfl, ← Nat.pow_mul] at h1
  have h3 : 2 ^ k ≤ 10 ^ k := Nat.pow_le_pow_left (by decide) k
  exact (Nat.pow_lt_pow_iff_right (by decide : 1 < 2)).1 (by omega)
theorem t_text (v : Nat) (hv : (limbs v).length ≤ 30000) : PCall Tryd.prog 47 [encNat v] (· = .str (decT v)) := by
  refine pcall_vc c_nattext (by simp [c_nattext]) fun x K hK => ?_
  simp [c_nattext, encNat]
  refine oks_callz [] .wide [encNat v] (t_zero v) (by simp) (by simp; rfl) (by simp [encNat]) ?_
  rintro _ rfl
  refine oks_vc .wide ?_
  by_cases h0 : v = 0
  · simp [h0]
    exact hK _ (by rw [h0, decT_lt (by omega)]; rfl)
  · simp [h0]
    have hne : limbs v ≠ [] := by rw [limbs_pos h0]; simp
    refine oks_calln .wide (ps := [.sl none 1 (enc (limbs v)) []]) (by simp) (by simp) (t_clone32 (limbs v) hne (by omega)) ?_
    rintro _ H ⟨k, rfl, hH⟩
    refine ⟨k, 1, 0, _, _, _, rfl, hH, oks_vc .wide ?_⟩
    simp
    have h2v : ∀ k, 10 ^ k ≤ v → k < 960000 := fun k hk => by
      have := log_bound _ k (limbs_ok v) (by rw [val_limbs]; exact hk)
      omega
    refine vc_loop .wide txI (fun y => OkL y.l ∧ val y.l = v / 10 ^ y.out.length ∧ (∀ k, y.l.length = k + 1 → y.l[k]? ≠ some 0) ∧ y.l.length ≤ 30000 ∧ y.out = lowD y.out.length v ∧ y.l.length ≤ y.room ∧ y.out.length ≤ 960009) (fun y => val y.l)
      ⟨limbs v, [], (limbs v).length, []⟩ ?_ (sub_iff (by simp [outV, outH, txI])) ?_
    · refine ⟨limbs_ok v, by simp [val_limbs], ?_, hv, rfl, Nat.le_refl _, by simp⟩
      exact limbs_top v
    · rintro ⟨l, t, room, out⟩ ⟨h1, h2, h3, h4, h5, h6, h7⟩ Q g1 g2
      simp only at h1 h2 h3 h4 h5 h6 h7
      by_cases hl0 : l = []
      · subst hl0
        obtain ⟨d, q, rfl⟩ : ∃ d q, out = d :: q := by
          cases out with
          | nil => simp [val] at h2; omega
          | cons d q => exact ⟨d, q, rfl⟩
        simp [txI, outV, outH]
        refine g2 _ _ (by simp) ?_
        simp
        refine oks_callb .wide 27 (by simp) (by simp; exact ⟨rfl, rfl⟩) (by simpa using t_reverse (d :: q) (q.length + 1) (by simp at h7 ⊢; omega)) ?_
        rintro _ H ⟨rfl, hH⟩
        refine ⟨_, hH, oks_vc .wide ?_⟩
        have hb := bytesOf_encB (d :: q).reverse
        have hv0 : v < 10 ^ (d :: q).length := by
          have : v / 10 ^ (d :: q).length = 0 := by rw [← h2]; rfl
          exact Nat.lt_of_not_le fun h => by
            have := Nat.div_pos h (Nat.pow_pos (by decide))
            omega
        have htx := lowD_text (d :: q).length v hv0
        rw [← h5, if_neg h0] at htx
        have hcut : (encB (d :: q).reverse).take (q.length + 1) = encB (d :: q).reverse := List.take_of_length_le (by simp)
        simp only [List.reverse_cons] at hb hcut htx
        simp [hcut, hb]
        refine oks_callz [] .wide [.str ((q.reverse ++ [d]).map UInt8.ofNat), .str [48]] (t_tl _ 48 (by decide) (by simp at h7 ⊢; omega)) (by simp) (by simp; rfl) (by simp) ?_
        rintro _ rfl
        refine oks_vc .wide ?_
        simp
        exact hK _ (by rw [← htx]; simp)
      · have hpos : 0 < l.length := List.length_pos_iff.2 hl0
        simp [txI, hpos]
        refine oks_callb .wide 10 (by simp) (by simp; exact ⟨rfl, rfl⟩) (by simpa [show U 1000000000 = 1000000000 from rfl] using t_less l t room 1000000000 (by decide) (by decide) h1 (by omega)) ?_
        rintro _ H ⟨l', k1, k2, k3, hH, rfl⟩
        refine ⟨_, hH, oks_vc .wide ?_⟩
        simp
        have hvp : 0 < val l := Nat.pos_of_ne_zero fun e => hl0 (by
          have : l = limbs (val l) := (limbs_val h1 (fun k d hk hd e => h3 k hk (by rw [hd, e]))).symm
          rw [this, e, limbs_zero])
        have hok : 10 ^ out.length ≤ v := Nat.le_of_not_lt fun h => by
          rw [Nat.div_eq_of_lt h] at h2
          omega
        have h8 := h2v _ hok
        refine vc_loop .wide (txJ ⟨l', t, room, out⟩) (fun z => z.1 ≤ 9 ∧ z.2.1 = val l % 1000000000 / 10 ^ z.1 ∧ z.2.2 = lowD z.2.2.length v ∧ z.2.2.length = out.length + z.1) (fun z => 9 - z.1)
          ⟨0, val l % 1000000000, out⟩ ⟨by simp, by simp, h5, by simp⟩ ?_ ?_
        · cases out with
          | nil => exact sub_iff (by simp [outV, outH, txJ, k1])
          | cons d q => exact sub_iff (by simp [outV, outH, txJ, k1])
        · rintro ⟨j, rest, o⟩ ⟨j1, j2, j3, j4⟩ Q' g1' g2'
          simp only at j1 j2 j3 j4
          by_cases hj : j = 9
          · subst hj
            simp [txJ]
            refine g2' _ _ (by simp) ?_
            simp
            refine oks_callb .wide 10 (by simp) (by cases o <;> simp [outH] <;> exact ⟨rfl, rfl⟩) (by simpa using t_trimM l' t room (by omega) k2 (by omega)) ?_
            rintro _ H ⟨n, hn, hl', rfl, hH⟩
            refine ⟨_, hH, oks_vc .wide ?_⟩
            obtain ⟨d, q, rfl⟩ : ∃ d q, o = d :: q := by
              cases o with
              | nil => simp at j4
              | cons d q => exact ⟨d, q, rfl⟩
            have hnl : (limbs (val l')).length = n := by rw [← hl']; simp; omega
            simp [outV, outH]
            refine g1 _ ⟨limbs (val l'), l'.drop n ++ t, n, d :: q⟩ ⟨limbs_ok _, ?_, limbs_top _, by simp only [hnl]; omega, j3, by simp only [hnl]; omega, by simp only [j4]; omega⟩ ?_ (sub_iff ?_)
            · simp only [val_limbs, k3, h2, j4, Nat.div_div_eq_div_mul, Nat.pow_add]
            · simp only [val_limbs, k3]
              omega
            · have : enc (limbs (val l') ++ (l'.drop n ++ t)) = enc (l' ++ t) := by rw [← hl', ← List.append_assoc, List.take_append_drop]
              simp only [txI, this, hnl]
              simp [outV, outH]
          · have hj9 : j < 9 := by omega
            have hr : rest < 4294967296 := by
              have := Nat.div_le_self (val l % 1000000000) (10 ^ j)
              omega
            have hdig : rest % 10 = v / 10 ^ o.length % 10 := by
              rw [j2, j4, Nat.pow_add, ← Nat.div_div_eq_div_mul, ← h2]
              exact dig_mod _ j hj9
            have hrn : rest / 10 = val l % 1000000000 / 10 ^ (j + 1) := by rw [j2, Nat.div_div_eq_div_mul, Nat.pow_succ]
            have hm : rest % 10 < 10 := Nat.mod_lt _ (by decide)
            have hw : IntKind.i64.wrap ((j : Int) + 1) = (j : Int) + 1 := wrap_i64 (by omega)
            have h256 : (48 + rest % 10) % 256 = 48 + rest % 10 := Nat.mod_eq_of_lt (by omega)
            have fin : ∀ s : St, s.Sub (txJ ⟨l', t, room, out⟩ (j + 1, rest / 10, o ++ [48 + rest % 10])) → Q' .normal s := fun s hs => by
              refine g1' _ (j + 1, rest / 10, o ++ [48 + rest % 10]) ⟨by omega, hrn, ?_, by simp [j4]; omega⟩ (by simp; omega) hs
              simp only [List.length_append, List.length_cons, List.length_nil, Nat.zero_add, lowD_snoc, ← hdig]
              rw [← j3]
            cases o with
            | nil =>
              simp [txJ, outV, outH, show (j : Int) < 9 by omega, ev_rem10, ev_quo10 _ hr, ev_add48 _ hm, h256, hw, maxLen_eq]
              refine fin _ (sub_iff ?_)
              simp [txJ, outV, outH, encB]
            | cons d q =>
              simp only [List.length_cons] at j4
              have b1 : q.length + 1 + 1 ≤ 140737488355328 := by omega
              have b2 : q.length + 1 + 1 ≤ 9223372036854775807 := by omega
              simp [txJ, outV, outH, show (j : Int) < 9 by omega, ev_rem10, ev_quo10 _ hr, ev_add48 _ hm, h256, hw, maxLen_eq, b1, b2]
              refine fin _ (sub_iff ?_)
              simp [txJ, outV, outH, encB]
              exact List.take_of_length_le (by simp)
end Go.Dl
