/- Contracts of hornbeamref1: Gcd, Make, Text. -/
import Derived.Test.YtjmhdfcmghmgjaaDoorRfD
set_option linter.unusedVariables false
set_option linter.unusedSimpArgs false
set_option maxRecDepth 1000000
namespace Go.Dl
open Go.Proofs

theorem limbs_nzD {n : Nat} : 0 < (limbsD n).length ↔ n ≠ 0 := by
  constructor
  · rintro h rfl; simp [limbs_zeroD] at h
  · intro h
    exact Nat.pos_of_ne_zero fun e => h (limbs_len_zeroD.1 e)

theorem r_gcd (a b : Nat) (ha : (limbsD a).length ≤ 100000) (hb : (limbsD b).length ≤ 100000) : PCall Tryd.prog 99 [pD a, pD b] (· = pD (Nat.gcd a b)) := by
  refine pcall_vcz c_rgcd (by simp [c_rgcd]) fun x K hK => ?_
  simp [c_rgcd, pD]
  refine vc_loop .wide (fun y : Nat × Nat => ⟨19, [(0, .p (pD y.1)), (1, .p (pD y.2))], []⟩) (fun y => (limbsD y.1).length ≤ 100000 ∧ (limbsD y.2).length ≤ 100000 ∧ Nat.gcd y.1 y.2 = Nat.gcd a b) (fun y => y.2) (a, b) ⟨ha, hb, rfl⟩ (sub_iff (by simp [pD])) ?_
  rintro ⟨u, v⟩ ⟨h1, h2, h3⟩ Q k1 k2
  simp only at h1 h2 h3
  by_cases hv : v = 0
  · subst hv
    rw [Nat.gcd_zero_right] at h3
    simp [pD, limbs_zeroD]
    refine k2 _ _ (by simp) ?_
    simp
    exact hK _ _ rfl (by simp [pD, h3])
  · have hpos := limbs_nzD.2 hv
    have hdm := r_divmod (limbsD u) (limbsD v) (limbs_okD u) (limbs_okD v) h1 h2 (by rw [val_limbsD]; exact hv)
    rw [val_limbsD, val_limbsD] at hdm
    simp [pD, hpos]
    refine oks_callz [] .wide [.sl none 1 (encD (limbsD u)) [], .sl none 1 (encD (limbsD v)) []] hdm (by simp) (by simp; rfl) (by simp) ?_
    rintro _ rfl
    refine oks_vc .wide ?_
    simp [pD]
    have hlt : u % v < v := Nat.mod_lt _ (by omega)
    refine k1 _ (v, u % v) ⟨h2, Nat.le_trans (limbs_monoD (Nat.le_of_lt hlt)) h2, ?_⟩ (by simpa using hlt) (sub_iff (by simp [pD]))
    rw [← h3]
    simp only
    rw [Nat.gcd_comm u v, Nat.gcd_rec v u, Nat.gcd_comm]

def rmakeP (neg : Bool) (n d : Nat) : PV := .agg [.bool (neg && decide (n / Nat.gcd n d ≠ 0)), pD (n / Nat.gcd n d), pD (d / Nat.gcd n d)]
theorem r_make (neg : Bool) (n d : Nat) (hd : d ≠ 0) (ln : (limbsD n).length ≤ 100000) (ld : (limbsD d).length ≤ 100000) : PCall Tryd.prog 76 [.bool neg, pD n, pD d] (· = rmakeP neg n d) := by
  refine pcall_vcz c_rmake (by simp [c_rmake]) fun x K hK => ?_
  have tn := r_trim none (limbsD n) (limbs_okD n) (by omega)
  have td := r_trim none (limbsD d) (limbs_okD d) (by omega)
  rw [val_limbsD] at tn td
  have hg0 : Nat.gcd n d ≠ 0 := fun e => hd (Nat.eq_zero_of_gcd_eq_zero_right e)
  have lg : (limbsD (Nat.gcd n d)).length ≤ 100000 := Nat.le_trans (limbs_monoD (Nat.gcd_le_right n (Nat.pos_of_ne_zero hd))) ld
  have d1 := r_divmod (limbsD n) (limbsD (Nat.gcd n d)) (limbs_okD _) (limbs_okD _) ln lg (by rw [val_limbsD]; exact hg0)
  have d2 := r_divmod (limbsD d) (limbsD (Nat.gcd n d)) (limbs_okD _) (limbs_okD _) ld lg (by rw [val_limbsD]; exact hg0)
  rw [val_limbsD, val_limbsD] at d1 d2
  simp [c_rmake, pD]
  refine oks_callz [] .wide [.sl none 1 (encD (limbsD n)) []] tn (by simp) (by simp; rfl) (by simp) ?_
  rintro _ rfl
  refine oks_vc .wide ?_
  simp
  refine oks_callz [] .wide [.sl none 1 (encD (limbsD d)) []] td (by simp) (by simp; rfl) (by simp) ?_
  rintro _ rfl
  refine oks_vc .wide ?_
  simp
  refine oks_callz [] .wide [pD n, pD d] (r_gcd n d ln ld) (by simp) (by simp; rfl) (by simp [pD]) ?_
  rintro _ rfl
  refine oks_vc .wide ?_
  simp [pD]
  refine oks_callz [] .wide [.sl none 1 (encD (limbsD n)) [], .sl none 1 (encD (limbsD (Nat.gcd n d))) []] d1 (by simp) (by simp; rfl) (by simp) ?_
  rintro _ rfl
  refine oks_vc .wide ?_
  simp [pD]
  refine oks_callz [] .wide [.sl none 1 (encD (limbsD d)) [], .sl none 1 (encD (limbsD (Nat.gcd n d))) []] d2 (by simp) (by simp; rfl) (by simp) ?_
  rintro _ rfl
  refine oks_vc .wide ?_
  have hp : decide (0 < (limbsD (n / Nat.gcd n d)).length) = decide (n / Nat.gcd n d ≠ 0) := decide_eq_decide.2 limbs_nzD
  cases neg
  · simp [pD]
    exact hK _ _ rfl (by simp [rmakeP, pD])
  · simp [pD, hp]
    exact hK _ _ rfl (by simp [rmakeP, pD])

/-! ### text -/
theorem lowD_exact : ∀ (n v : Nat), v < 10 ^ (n + 1) → 10 ^ n ≤ v → (lowD (n + 1) v).reverse.map UInt8.ofNat = decT v
  | 0, v, h1, h2 => by
    have : v < 10 := by simpa using h1
    rw [decT_lt this]
    simp [lowD, Nat.mod_eq_of_lt this]
  | n + 1, v, h1, h2 => by
    have h3 : 10 ^ (n + 1) = 10 * 10 ^ n := by rw [Nat.pow_succ, Nat.mul_comm]
    have h4 : 10 ^ (n + 1 + 1) = 10 * 10 ^ (n + 1) := by rw [Nat.pow_succ, Nat.mul_comm]
    have hp : 0 < 10 ^ n := Nat.pow_pos (by decide)
    have ih := lowD_exact n (v / 10) (by omega) (by omega)
    rw [lowD, List.reverse_cons, List.map_append, ih, decT_ge (show ¬ v < 10 by omega)]
    rfl
def sT (n v : Nat) : List UInt8 := (lowD n v).reverse.map UInt8.ofNat
theorem sT_len (n v : Nat) : (sT n v).length = n := by simp [sT, lowD_len]
theorem sT_succ (n v : Nat) : sT (n + 1) v = UInt8.ofNat (48 + v / 10 ^ n % 10) :: sT n v := by
  unfold sT
  rw [lowD_snoc]
  simp
theorem digD (V i k : Nat) (hk : k < 4) : V / 10000 ^ i % 10000 / 10 ^ k % 10 = V / 10 ^ (4 * i + k) % 10 := by
  have e1 : (10000 : Nat) ^ i = 10 ^ (4 * i) := by rw [show (10000 : Nat) = 10 ^ 4 from rfl, ← Nat.pow_mul]
  have e2 : (10000 : Nat) = 10 ^ k * 10 ^ (4 - k) := by rw [← Nat.pow_add, show k + (4 - k) = 4 by omega]
  rw [e1, Nat.pow_add, ← Nat.div_div_eq_div_mul]
  generalize V / 10 ^ (4 * i) = u
  rw [e2, Nat.mod_mul_right_div_self, Nat.mod_mod_of_dvd]
  exact ⟨10 ^ (3 - k), by rw [show 4 - k = (3 - k) + 1 by omega, Nat.pow_succ, Nat.mul_comm]⟩
@[simp] theorem U_toNat (n : Nat) : (U n).toNat = n := by unfold U; omega
theorem evi_48 (d : Nat) (h : d < 10) : evBin .add (.int .i64 48) (.int .i64 (U d)) = some (.int .i64 (U (48 + d))) := evi_add 48 d (by omega)

def rtI (V : Nat) (y : Nat × List UInt8) : St := ⟨48, [(4, .p (.int .i64 (y.1 : Int))), (3, .p (.str y.2)), (0, .p (pD V))], []⟩
def rtJ (V i : Nat) (z : Nat × Nat × List UInt8) : St := ⟨48, [(6, .p (.int .i64 (z.1 : Int))), (5, .p (.int .i64 (U z.2.1))), (4, .p (.int .i64 (i : Int))), (3, .p (.str z.2.2)), (0, .p (pD V))], []⟩
theorem r_text (a : List Nat) (ha : OkLD a) (la : a.length ≤ 100000) : PCall Tryd.prog 49 [.sl none 1 (encD a) []] (· = .str (decT (valD a))) := by
  refine pcall_vcz c_rrtext (by simp [c_rrtext]) fun x K hK => ?_
  obtain ⟨V, hV⟩ : ∃ V, V = valD a := ⟨_, rfl⟩
  have lA := limbs_len_leD ha
  rw [← hV] at lA hK
  simp [c_rrtext]
  refine oks_callz [] .wide [.sl none 1 (encD a) []] (r_trim none a ha (by omega)) (by simp) (by simp; rfl) (by simp) ?_
  rintro _ rfl
  refine oks_vc .wide ?_
  rw [← hV]
  by_cases h0 : V = 0
  · subst h0
    simp [limbs_zeroD]
    exact hK _ _ rfl (by rw [decT_lt (by decide)]; simp)
  · have hpos := limbs_nzD.2 h0
    have hne : ¬ ((limbsD V).length : Int) = 0 := by omega
    have hnel : ¬ limbsD V = [] := fun e => by rw [e] at hpos; simp at hpos
    simp [hne, hnel]
    refine vc_loop .wide (rtI V) (fun y => y.1 ≤ (limbsD V).length ∧ (y.1 < (limbsD V).length → y.2 = sT (4 * y.1) V) ∧ (y.1 = (limbsD V).length → y.2 = decT V)) (fun y => (limbsD V).length - y.1) (0, [])
      ⟨by simp, fun _ => by simp [sT, lowD], fun h => by simp only at h; omega⟩ (sub_iff (by simp [rtI, pD])) ?_
    rintro ⟨i, s⟩ ⟨h1, h2, h3⟩ Q k1 k2
    simp only at h1 h2 h3
    by_cases hi : i = (limbsD V).length
    · have h3 := h3 hi
      subst hi
      simp [rtI, pD]
      refine k2 _ _ (by simp) ?_
      simp
      exact hK _ _ rfl (by simp [h3])
    · have hlt : i < (limbsD V).length := by omega
      have h2 := h2 hlt
      have hA : (limbsD V)[i] = V / 10000 ^ i % 10000 := by
        have := digit_eqD V i
        rw [List.getElem?_eq_getElem hlt] at this
        exact this
      have hAW : (limbsD V)[i] < 10000 := limbs_okD V _ (List.getElem_mem hlt)
      have hwi : IntKind.i64.wrap ((i : Int) + 1) = (i : Int) + 1 := wrap_i64 (by omega)
      have hlast : i + 1 = (limbsD V).length → ∀ k, (limbsD V)[i] / 10 ^ k = V / 10 ^ (4 * i + k) := by
        intro he k
        have hVW := limbs_ltD V
        rw [← he, Nat.pow_succ] at hVW
        have : V / 10000 ^ i < 10000 := (Nat.div_lt_iff_lt_mul (Nat.pow_pos (by decide))).2 (by rw [Nat.mul_comm]; exact hVW)
        rw [hA, Nat.mod_eq_of_lt this, Nat.pow_add, ← Nat.div_div_eq_div_mul, show (10000 : Nat) ^ i = 10 ^ (4 * i) by rw [show (10000 : Nat) = 10 ^ 4 from rfl, ← Nat.pow_mul]]
      simp [rtI, pD, hlt]
      refine vc_loop .wide (rtJ V i) (fun z => z.1 ≤ 4 ∧ z.2.1 = (limbsD V)[i] / 10 ^ z.1 ∧ z.2.2 = sT (4 * i + z.1) V ∧ (i + 1 = (limbsD V).length → z.1 = 0 ∨ 0 < V / 10 ^ (4 * i + z.1 - 1))) (fun z => 4 - z.1) (0, (limbsD V)[i], s)
        ⟨by simp, by simp, h2, fun _ => .inl rfl⟩ (sub_iff (by simp [rtJ, pD])) ?_
      rintro ⟨k, v, t⟩ ⟨j1, j2, j3, j4⟩ Q' k1' k2'
      simp only at j1 j2 j3 j4
      have hvb : v < 10000 := by rw [j2]; exact Nat.lt_of_le_of_lt (Nat.div_le_self _ _) hAW
      have hstep : k < 4 → (i + 1 < (limbsD V).length ∨ 0 < v) → Q' .normal ⟨48, [], []⟩ → True := fun _ _ _ => trivial
      have hd10 : v % 10 < 10 := Nat.mod_lt _ (by decide)
      have e1 := evi_48 (v % 10) hd10
      have e2 := evi_quo10 v (by omega)
      have hb256 : (48 + v % 10) % 256 = 48 + v % 10 := Nat.mod_eq_of_lt (by omega)
      have htl : t.length = 4 * i + k := by rw [j3, sT_len]
      have hcat : t.length + 1 ≤ 9223372036854775807 := by omega
      have hcat' : 1 + t.length ≤ 9223372036854775807 := by omega
      have hwk : IntKind.i64.wrap ((k : Int) + 1) = (k : Int) + 1 := wrap_i64 (by omega)
      have hnx : k < 4 → UInt8.ofNat (48 + v % 10) :: t = sT (4 * i + (k + 1)) V := by
        intro hk
        rw [show 4 * i + (k + 1) = (4 * i + k) + 1 by omega, sT_succ, ← j3, j2, hA, digD V i k hk]
      have hv10 : v / 10 = (limbsD V)[i] / 10 ^ (k + 1) := by rw [j2, Nat.div_div_eq_div_mul, Nat.pow_succ]
      by_cases hk4 : k = 4
      · subst hk4
        simp [rtJ, pD]
        refine k2' _ _ (by simp) ?_
        simp [hwi]
        refine k1 _ (i + 1, t) ⟨by omega, fun h => ?_, fun h => ?_⟩ (by simp only; omega) (sub_iff (by simp [rtI, pD]))
        · simp only; rw [j3, show 4 * (i + 1) = 4 * i + 4 by omega]
        · simp only at h ⊢
          have hz : V / 10 ^ (4 * i + 4) = 0 := by rw [← hlast h, Nat.div_eq_of_lt hAW]
          have hlt4 : V < 10 ^ (4 * i + 4) := Nat.lt_of_not_le fun hh => by have := Nat.div_pos hh (Nat.pow_pos (by decide)); omega
          rcases j4 h with h' | h'
          · omega
          · have hge : 10 ^ (4 * i + 3) ≤ V := Nat.le_of_not_lt fun hh => by rw [show 4 * i + 4 - 1 = 4 * i + 3 by omega, Nat.div_eq_of_lt hh] at h'; omega
            rw [j3]
            exact lowD_exact (4 * i + 3) V hlt4 hge
      · have hk : k < 4 := by omega
        have hki : (k : Int) < 4 := by omega
        by_cases hmore : i + 1 < (limbsD V).length
        · have hmi : (i : Int) + 1 < ((limbsD V).length : Int) := by omega
          simp [rtJ, pD, hki, hwi, hmi, evi_rem10, e1, hb256, e2, hcat, hcat', hwk]
          refine k1' _ (k + 1, v / 10, UInt8.ofNat (48 + v % 10) :: t) ⟨by omega, hv10, hnx hk, fun h => by omega⟩ (by simp only; omega) (sub_iff (by simp [rtJ, pD]))
        · have hmi : ¬ (i : Int) + 1 < ((limbsD V).length : Int) := by omega
          have hend : i + 1 = (limbsD V).length := by omega
          by_cases hv0 : 0 < v
          · simp [rtJ, pD, hki, hwi, hmi, hv0, evi_rem10, e1, hb256, e2, hcat, hcat', hwk]
            refine k1' _ (k + 1, v / 10, UInt8.ofNat (48 + v % 10) :: t) ⟨by omega, hv10, hnx hk, fun h => .inr ?_⟩ (by simp only; omega) (sub_iff (by simp [rtJ, pD]))
            simp only
            rw [show 4 * i + (k + 1) - 1 = 4 * i + k by omega, ← hlast hend, ← j2]
            exact hv0
          · have hv0' : v = 0 := by omega
            have hz : V / 10 ^ (4 * i + k) = 0 := by rw [← hlast hend, ← j2, hv0']
            have hltk : V < 10 ^ (4 * i + k) := Nat.lt_of_not_le fun hh => by have := Nat.div_pos hh (Nat.pow_pos (by decide)); omega
            simp [rtJ, pD, hki, hwi, hmi, hv0']
            refine k2' _ _ (by simp) ?_
            simp [hwi]
            refine k1 _ (i + 1, t) ⟨by omega, fun h => by simp only at h; omega, fun h => ?_⟩ (by simp only; omega) (sub_iff (by simp [rtI, pD]))
            simp only
            rcases j4 hend with h' | h'
            · exfalso
              subst h'
              have := limbs_topD V i hend.symm
              rw [List.getElem?_eq_getElem hlt] at this
              rw [hv0'] at j2
              simp at j2
              exact this (by rw [← j2])
            · obtain ⟨n, hn⟩ : ∃ n, 4 * i + k = n + 1 := ⟨4 * i + k - 1, by
                rcases Nat.eq_zero_or_pos (4 * i + k) with hh | hh
                · rw [hh] at hltk; simp at hltk; omega
                · omega⟩
              rw [hn] at h' hltk j3
              have hge : 10 ^ n ≤ V := Nat.le_of_not_lt fun hh => by rw [Nat.add_sub_cancel, Nat.div_eq_of_lt hh] at h'; omega
              rw [j3]
              exact lowD_exact n V hltk hge
end Go.Dl
