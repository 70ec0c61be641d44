/- Contracts of hornbeamref1: RatText. -/
import Derived.Test.YtjmhdfcmghmgjaaDoorRfF
set_option linter.unusedVariables false
set_option linter.unusedSimpArgs false
set_option maxRecDepth 1000000
namespace Go.Dl
open Go.Proofs

theorem ten4 : (10000 : Nat) = 10 ^ 4 := rfl
theorem decT_lenD (v : Nat) : (decT v).length ≤ 4 * (limbsD v).length + 1 := by
  have key : ∀ v, v ≠ 0 → 10 ^ ((decT v).length - 1) ≤ v := by
    intro v
    induction v using Nat.strongRecOn with
    | ind v ih =>
      intro h0
      by_cases h : v < 10
      · rw [decT_lt h]; simp; omega
      · rw [decT_ge h, List.length_append]
        obtain ⟨b, r, e, _⟩ := decT_head (v / 10) (by omega)
        have := ih (v / 10) (by omega) (by omega)
        rw [e] at this ⊢
        simp only [List.length_cons, List.length_nil, Nat.zero_add, Nat.add_sub_cancel] at this ⊢
        rw [Nat.pow_succ]
        omega
  by_cases h : v = 0
  · subst h; rw [decT_lt (by decide)]; simp
  · have h1 := key v h
    have h2 := limbs_ltD v
    rw [ten4, ← Nat.pow_mul] at h2
    have := (Nat.pow_lt_pow_iff_right (by decide : 1 < 10)).1 (Nat.lt_of_le_of_lt h1 h2)
    omega

def rt (neg : Bool) (n d : Nat) : List UInt8 := (if neg then [45] else []) ++ decT n ++ (if d = 1 then [] else 47 :: decT d)
def encRR (neg : Bool) (n d : Nat) : PV := .agg [.bool neg, pD n, pD d]
theorem r_rattext (neg : Bool) (n d : Nat) (hn : (limbsD n).length ≤ 100000) (hd : (limbsD d).length ≤ 100000) : PCall Tryd.prog 21 [encRR neg n d] (· = .str (rt neg n d)) := by
  refine pcall_vcz c_rrattext (by simp [c_rrattext]) fun x K hK => ?_
  have l1 := decT_lenD n
  have l2 := decT_lenD d
  have g1 : (decT n).length + 1 ≤ 9223372036854775807 := by omega
  have g2 : (decT n).length + 1 + 1 ≤ 9223372036854775807 := by omega
  have g3 : (decT n).length + 1 + (decT d).length ≤ 9223372036854775807 := by omega
  have g4 : (decT n).length + 1 + 1 + (decT d).length ≤ 9223372036854775807 := by omega
  have g5 : 1 + (decT n).length ≤ 9223372036854775807 := by omega
  have g6 : 1 + (decT n).length + 1 ≤ 9223372036854775807 := by omega
  have tn := r_text (limbsD n) (limbs_okD n) hn
  have td := r_text (limbsD d) (limbs_okD d) hd
  have tc := r_cmp (limbsD d) [1] (limbs_okD d) (okD1 (by decide)) (by omega) (by simp)
  rw [val_limbsD] at tn td tc
  rw [show valD [1] = 1 from rfl] at tc
  have hiff : cmpI d 1 = 0 ↔ d = 1 := by
    unfold cmpI
    by_cases h1 : d < 1
    · simp [h1]; omega
    · by_cases h2 : d = 1
      · simp [h2]
      · simp [h1, h2]
  have q1 : (decT n).length ≤ 9223372036854775806 := by omega
  have q2 : (decT n).length + 1 ≤ 9223372036854775806 := by omega
  have q3 : (decT n).length ≤ 9223372036854775805 := by omega
  simp [c_rrattext, encRR, pD]
  refine oks_callz [] .wide [.sl none 1 (encD (limbsD n)) []] tn (by simp) (by simp; rfl) (by simp) ?_
  rintro _ rfl
  refine oks_vc .wide ?_
  cases neg <;>
  · simp [g5, g1]
    refine oks_callz [13] .wide [.sl none 1 (encD (limbsD d)) [], .sl none 1 (encD [1]) []] tc (by simp) (by simp; rfl) (by simp [encD, U]) ?_
    rintro _ rfl
    refine oks_vc .wide ?_
    by_cases h : d = 1
    · have hc := hiff.2 h
      simp [hc]
      exact hK _ _ rfl (by simp [rt, h])
    · have hc : ¬ cmpI d 1 = 0 := fun e => h (hiff.1 e)
      simp [hc, q1, q2, q3]
      refine oks_callz [] .wide [.sl none 1 (encD (limbsD d)) []] td (by simp) (by simp; rfl) (by simp) ?_
      rintro _ rfl
      refine oks_vc .wide ?_
      simp [g1, g2, g3, g4, g5, g6, q1, q2, q3]
      exact hK _ _ rfl (by simp [rt, h])

theorem cutC_no (c : UInt8) : ∀ t : List UInt8, (∀ x, x ∈ t → x ≠ c) → cutC c t = (t, [], false)
  | [], _ => rfl
  | x :: r, h => by
    have h1 : ¬ x = c := h x (by simp)
    have ih := cutC_no c r (fun y hy => h y (by simp [hy]))
    simp [cutC, h1, ih]
theorem cutC_at (c : UInt8) (q : List UInt8) : ∀ p : List UInt8, (∀ x, x ∈ p → x ≠ c) → cutC c (p ++ c :: q) = (p, q, true)
  | [], _ => by simp [cutC]
  | x :: r, h => by
    have h1 : ¬ x = c := h x (by simp)
    have ih := cutC_at c q r (fun y hy => h y (by simp [hy]))
    simp [cutC, h1, ih]
def errRR : PV := encRR false 0 1
def rratparseP (s : List UInt8) : PV := if rOk s then .tup [rmakeP (rpNeg s) (decval (rpA s)) (decval (rpB s)), .int .i64 0] else .tup [errRR, .int .i64 3]
theorem rt_eq (neg : Bool) (n d : Nat) (hd : d ≠ 0) : rt (neg && decide (n / Nat.gcd n d ≠ 0)) (n / Nat.gcd n d) (d / Nat.gcd n d) = ratT' (lowN neg n d) := by
  have hg0 : 0 < Nat.gcd n d := Nat.pos_of_ne_zero fun e => hd (Nat.eq_zero_of_gcd_eq_zero_right e)
  have hdg : d / Nat.gcd n d ≠ 0 := fun e => by
    have := Nat.div_mul_cancel (Nat.gcd_dvd_right n d)
    rw [e, Nat.zero_mul] at this
    exact hd this.symm
  by_cases hn : n = 0
  · subst hn
    rw [Nat.gcd_zero_left, Nat.zero_div, Nat.div_self (Nat.pos_of_ne_zero hd)]
    simp [rt, ratT', lowN, ratT, den1]
  · have hng : n / Nat.gcd n d ≠ 0 := fun e => by
      have := Nat.div_mul_cancel (Nat.gcd_dvd_left n d)
      rw [e, Nat.zero_mul] at this
      exact hn this.symm
    simp only [lowN, if_neg hn, ratT', ratT, den1, if_neg hdg, rt, hng, ne_eq, not_false_eq_true, decide_true, Bool.and_true]
end Go.Dl
