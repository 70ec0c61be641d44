/- Contracts of hornbeam/rat: cross, Cmp, Parse. -/
import Derived.Test.YtjmhdfcmghmgjaaDoorNtV
set_option linter.unusedVariables false
set_option linter.unusedSimpArgs false
set_option maxRecDepth 1000000
namespace Go.Dl
open Go.Proofs

theorem t_cross (s : Bool) (a b : Nat) (t : Bool) (c d : Nat) (ha : (limbs a).length ≤ 800000) (hb : (limbs (den1 b)).length ≤ 800000) (hc : (limbs c).length ≤ 800000) (hd : (limbs (den1 d)).length ≤ 800000) :
    PCall Tryd.prog 86 [encRat s a b, encRat t c d] (· = .tup [encNat (a * den1 d), encNat (c * den1 b)]) := by
  refine pcall_vcz c_cross (by simp [c_cross]) fun x K hK => ?_
  simp [c_cross, encRat]
  refine vc_drawS .wide [(10, 4), (11, 5)] rfl ?_
  simp
  refine dcall_pz [encRat t c d] _ (t_den t c d) (by simp; rfl) (by simp [encRat]) ?_
  simp [encNat]
  refine dcall_pz [encNat a, encNat (den1 d)] _ (t_mul a _ (by omega) (by omega)) (by simp; rfl) (by simp [encNat]) ?_
  simp [encNat]
  refine dcall_pz [encRat s a b] _ (t_den s a b) (by simp; rfl) (by simp [encRat]) ?_
  simp [encNat]
  refine dcall_pz [encNat c, encNat (den1 b)] _ (t_mul c _ (by omega) (by omega)) (by simp; rfl) (by simp [encNat]) ?_
  simp [encNat]
  exact hK _ _ rfl (by simp [encNat])

def rcmpI (s : Bool) (x : Nat) (t : Bool) (y : Nat) : Int := if s && t then cmpI y x else if s then -1 else if t then 1 else cmpI x y
theorem t_rcmp (s : Bool) (a b : Nat) (t : Bool) (c d : Nat) (ha : (limbs a).length ≤ 800000) (hb : (limbs (den1 b)).length ≤ 800000) (hc : (limbs c).length ≤ 800000) (hd : (limbs (den1 d)).length ≤ 800000) :
    PCall Tryd.prog 59 [encRat s a b, encRat t c d] (· = .int .i64 (rcmpI s (a * den1 d) t (c * den1 b))) := by
  refine pcall_vcz c_rcmp (by simp [c_rcmp]) fun x K hK => ?_
  simp [c_rcmp, encRat]
  refine oks_callz [] .wide [encRat s a b, encRat t c d] (t_cross s a b t c d ha hb hc hd) (by simp) (by simp; rfl) (by simp [encRat]) ?_
  rintro _ rfl
  refine oks_vc .wide ?_
  cases s <;> cases t <;> simp [encNat]
  · refine oks_callz [] .wide [encNat (a * den1 d), encNat (c * den1 b)] (t_cmp _ _) (by simp) (by simp; rfl) (by simp [encNat]) ?_
    rintro _ rfl
    refine oks_vc .wide ?_
    simp
    exact hK _ _ rfl (by simp [rcmpI])
  · exact hK _ _ rfl (by simp [rcmpI])
  · exact hK _ _ rfl (by simp [rcmpI])
  · refine oks_callz [] .wide [encNat (c * den1 b), encNat (a * den1 d)] (t_cmp _ _) (by simp) (by simp; rfl) (by simp [encNat]) ?_
    rintro _ rfl
    refine oks_vc .wide ?_
    simp
    exact hK _ _ rfl (by simp [rcmpI])

/-! reading -/
def rpNeg (s : List UInt8) : Bool := (cutPre 45 s).2
def rpA (s : List UInt8) : List UInt8 := (cutC 47 (cutPre 45 s).1).1
def rpB (s : List UInt8) : List UInt8 := if (cutC 47 (cutPre 45 s).1).2.2 then (cutC 47 (cutPre 45 s).1).2.1 else [49]
/-- numerator and denominator of the lowest terms -/
def lowN (neg : Bool) (n d : Nat) : Bool × Nat × Nat := if n = 0 then (false, 0, 0) else (neg, n / Nat.gcd n d, d / Nat.gcd n d)
def ratT' (r : Bool × Nat × Nat) : List UInt8 := ratT r.1 r.2.1 r.2.2
def rOk (s : List UInt8) : Bool := isNum (rpA s) && isNum (rpB s) && decide (decval (rpB s) ≠ 0) && decide (ratT' (lowN (rpNeg s) (decval (rpA s)) (decval (rpB s))) = s)
def rval (s : List UInt8) : Bool × Nat × Nat := lowN (rpNeg s) (decval (rpA s)) (decval (rpB s))
def encR (r : Bool × Nat × Nat) : PV := encRat r.1 r.2.1 r.2.2
def rparseP (s : List UInt8) : PV := if rOk s then .tup [encR (rval s), .int .i64 0] else .tup [encRat false 0 0, .int .i64 3]

theorem lowP_eq (neg : Bool) (n d : Nat) : lowP neg n d = encR (lowN neg n d) := by
  unfold lowP lowN encR; split <;> rfl
theorem decval_lt : ∀ (s : List UInt8), s.all isDig = true → decval s < 10 ^ s.length := by
  intro s
  obtain ⟨n, hn⟩ : ∃ n, s.length = n := ⟨_, rfl⟩
  induction n generalizing s with
  | zero => intro _; have := List.eq_nil_of_length_eq_zero hn; subst this; decide
  | succ n ih =>
    intro h
    have hne : s ≠ [] := by rintro rfl; simp at hn
    rw [← List.dropLast_concat_getLast hne] at h hn ⊢
    generalize s.dropLast = t at *
    generalize s.getLast hne = c at *
    simp only [List.all_append, List.all_cons, List.all_nil, Bool.and_true, Bool.and_eq_true, isDig, decide_eq_true_eq] at h
    have := ih t (by simpa using hn) h.1
    rw [decval_app, List.length_append, List.length_cons, List.length_nil, Nat.zero_add, Nat.pow_succ]
    omega
theorem limbs_decval (s : List UInt8) (h : isNum s = true) : (limbs (decval s)).length ≤ s.length := by
  have hd : s.all isDig = true := by unfold isNum at h; rw [Bool.and_eq_true] at h; exact h.1
  have h1 := decval_lt s hd
  rcases Nat.eq_zero_or_pos (limbs (decval s)).length with h0 | h0
  · omega
  · obtain ⟨k, hk⟩ : ∃ k, (limbs (decval s)).length = k + 1 := ⟨(limbs (decval s)).length - 1, by omega⟩
    have h2 := limbs_ge _ k hk
    have h3 : 10 ^ s.length ≤ 4294967296 ^ s.length := Nat.pow_le_pow_left (by decide) _
    have := (Nat.pow_lt_pow_iff_right (by decide : 1 < 4294967296)).1 (Nat.lt_of_le_of_lt h2 (Nat.lt_of_lt_of_le h1 h3))
    omega
theorem cutC_len (c : UInt8) : ∀ s : List UInt8, (cutC c s).1.length ≤ s.length ∧ (cutC c s).2.1.length ≤ s.length
  | [] => by simp [cutC]
  | x :: r => by
    have := cutC_len c r
    unfold cutC
    split
    · simp
    · simp; omega
theorem cutPre_len (c : UInt8) (s : List UInt8) : (cutPre c s).1.length ≤ s.length := by
  cases s with
  | nil => simp [cutPre]
  | cons x r => by_cases h : x = c <;> simp [cutPre, h]
theorem lowN_len (neg : Bool) (n d k : Nat) (hn : (limbs n).length ≤ k) (hd : (limbs d).length ≤ k) : (limbs (lowN neg n d).2.1).length ≤ k ∧ (limbs (lowN neg n d).2.2).length ≤ k := by
  unfold lowN
  split
  · simp [limbs_zero]
  · exact ⟨Nat.le_trans (limbs_mono (Nat.div_le_self _ _)) hn, Nat.le_trans (limbs_mono (Nat.div_le_self _ _)) hd⟩

/-- a call whose guard is not met -/
theorem oks_skipc {F : Fence} {P : Program} {nt : Nat} {x : Fx} {st : St} (hF : Free F) {R : St → Prop} {ops : List DOper} {d : Nat} {o : DOp} {i : Nat} {want : Bool} (hb : st.get i = .p (.bool (!want))) (h : OkOps F P nt x ops R (st.set d (.p (.tup [])))) :
    OkOps F P nt x (⟨some d, o, some (i, want)⟩ :: ops) R st := oks_step hF (by cases want <;> simp only [stepGd, hb] <;> rfl) h
theorem t_rparse (s : List UInt8) (hs : s.length ≤ 1000) : PCall Tryd.prog 12 [.str s] (· = rparseP s) := by
  refine pcall_vcz c_rparse (by simp [c_rparse]) fun x K hK => ?_
  have l1 := cutPre_len 45 s
  have l2 := cutC_len 47 (cutPre 45 s).1
  have lA : (rpA s).length ≤ 1000 := by unfold rpA; omega
  have lB : (rpB s).length ≤ 1000 := by unfold rpB; split; (omega); simp
  simp [c_rparse]
  refine oks_callz [] .wide [.str s, .str [45]] (t_cutp s 45 (by omega)) (by simp) (by simp; rfl) (by simp) ?_
  rintro _ rfl
  refine oks_vc .wide ?_
  simp [cutPreP]
  refine oks_callz [] .wide [.str (cutPre 45 s).1, .str [47]] (t_cut (cutPre 45 s).1 47 (by omega)) (by simp) (by simp; rfl) (by simp) ?_
  rintro _ rfl
  refine oks_vc .wide ?_
  simp [cutP]
  have pOk : ∀ t : List UInt8, t.length ≤ 1000 → isNum t = true → parseN t = .tup [encNat (decval t), .int .i64 0] := fun t h1 h2 => by simp [parseN, h2, show t.length ≤ 1200 by omega]
  have pNo : ∀ t : List UInt8, ¬ isNum t = true → parseN t = .tup [encNat 0, .int .i64 3] := fun t h2 => by simp [parseN, h2]
  have hcA : PCall Tryd.prog 42 [.str (cutC 47 (cutPre 45 s).1).1] (· = parseN (rpA s)) := t_parseN _ (by omega)
  have hneg : (cutPre 45 s).2 = rpNeg s := rfl
  have no : rOk s = false → rparseP s = .tup [encRat false 0 0, .int .i64 3] := fun h => by simp [rparseP, h]
  have yes : rOk s = true → rparseP s = .tup [encR (rval s), .int .i64 0] := fun h => by simp [rparseP, h]
  refine ⟨fun h2 => ?_, fun h2 => ?_⟩
  · have hcB : PCall Tryd.prog 42 [.str (cutC 47 (cutPre 45 s).1).2.1] (· = parseN (rpB s)) := by
      have := t_parseN (rpB s) (by omega)
      rwa [show rpB s = (cutC 47 (cutPre 45 s).1).2.1 by simp [rpB, h2]] at this ⊢
    refine oks_callz [] .wide [.str (cutC 47 (cutPre 45 s).1).1] hcA (by simp) (by simp; rfl) (by simp) ?_
    rintro _ rfl
    refine oks_vc .wide ?_
    by_cases hA : isNum (rpA s) = true
    · rw [pOk _ lA hA]
      have nA := limbs_decval _ hA
      simp [encNat]
      refine oks_callz [] .wide [.str (cutC 47 (cutPre 45 s).1).2.1] hcB (by simp) (by simp; rfl) (by simp) ?_
      rintro _ rfl
      refine oks_vc .wide ?_
      by_cases hB : isNum (rpB s) = true
      · rw [pOk _ lB hB]
        have nB := limbs_decval _ hB
        simp [encNat, hneg]
        refine oks_callz [] .wide [.bool (rpNeg s), encNat (decval (rpA s)), encNat (decval (rpB s))] (t_make (rpNeg s) _ _ (by omega) (by omega)) (by simp) (by simp; rfl) (by simp [encNat]) ?_
        rintro _ rfl
        refine oks_vc .wide ?_
        by_cases hz : decval (rpB s) = 0
        · simp [makeP, hz, encRat]
          refine oks_skipc .wide (by simp) (oks_vc .wide ?_)
          simp
          exact hK _ _ (no (by simp [rOk, hz])).symm (by simp [encRat, limbs_zero])
        · have hl := lowN_len (rpNeg s) (decval (rpA s)) (decval (rpB s)) 1000 (by omega) (by omega)
          have ev : encR (lowN (rpNeg s) (decval (rpA s)) (decval (rpB s))) = encR (rval s) := rfl
          have hr : ratT' (lowN (rpNeg s) (decval (rpA s)) (decval (rpB s))) = ratT (rval s).1 (rval s).2.1 (rval s).2.2 := rfl
          have hl' : (limbs (rval s).2.1).length ≤ 1000 ∧ (limbs (rval s).2.2).length ≤ 1000 := hl
          rw [makeP, if_neg hz, lowP_eq, ev]
          simp [encR, encRat]
          refine oks_callz [] .wide [encRat (rval s).1 (rval s).2.1 (rval s).2.2] (t_rtext _ _ _ (by omega) (by omega)) (by simp) (by simp; rfl) (by simp [encRat]) ?_
          rintro _ rfl
          refine oks_vc .wide ?_
          by_cases he : ratT (rval s).1 (rval s).2.1 (rval s).2.2 = s
          · simp [he]
            exact hK _ _ (yes (by simp [rOk, hA, hB, hz, hr, he])).symm (by simp [encR, encRat])
          · simp [he]
            refine hK (.tup [.agg [.bool false, .sl none 0 [] [], .sl none 0 [] []], .int .i64 3]) _ (no ?_).symm (by simp [encRat, limbs_zero])
            simp [rOk, hA, hB, hz, hr, he]
      · rw [pNo _ hB]
        simp [encNat]
        exact hK _ _ (no (by simp [rOk, hB])).symm (by simp [encRat, limbs_zero])
    · rw [pNo _ hA]
      simp [encNat]
      refine oks_callz [] .wide [.str (cutC 47 (cutPre 45 s).1).2.1] hcB (by simp) (by simp; rfl) (by simp) ?_
      rintro _ rfl
      refine oks_vc .wide ?_
      by_cases hB : isNum (rpB s) = true
      · rw [pOk _ lB hB]
        simp [encNat]
        exact hK _ _ (no (by simp [rOk, hA])).symm (by simp [encRat, limbs_zero])
      · rw [pNo _ hB]
        simp [encNat]
        exact hK _ _ (no (by simp [rOk, hA])).symm (by simp [encRat, limbs_zero])
  · have hcB : PCall Tryd.prog 42 [.str [49]] (· = parseN (rpB s)) := by
      have := t_parseN (rpB s) (by omega)
      rwa [show rpB s = [49] by simp [rpB, h2]] at this ⊢
    refine oks_callz [] .wide [.str (cutC 47 (cutPre 45 s).1).1] hcA (by simp) (by simp; rfl) (by simp) ?_
    rintro _ rfl
    refine oks_vc .wide ?_
    by_cases hA : isNum (rpA s) = true
    · rw [pOk _ lA hA]
      have nA := limbs_decval _ hA
      simp [encNat]
      refine oks_callz [] .wide [.str [49]] hcB (by simp) (by simp; rfl) (by simp) ?_
      rintro _ rfl
      refine oks_vc .wide ?_
      by_cases hB : isNum (rpB s) = true
      · rw [pOk _ lB hB]
        have nB := limbs_decval _ hB
        simp [encNat, hneg]
        refine oks_callz [] .wide [.bool (rpNeg s), encNat (decval (rpA s)), encNat (decval (rpB s))] (t_make (rpNeg s) _ _ (by omega) (by omega)) (by simp) (by simp; rfl) (by simp [encNat]) ?_
        rintro _ rfl
        refine oks_vc .wide ?_
        by_cases hz : decval (rpB s) = 0
        · simp [makeP, hz, encRat]
          refine oks_skipc .wide (by simp) (oks_vc .wide ?_)
          simp
          exact hK _ _ (no (by simp [rOk, hz])).symm (by simp [encRat, limbs_zero])
        · have hl := lowN_len (rpNeg s) (decval (rpA s)) (decval (rpB s)) 1000 (by omega) (by omega)
          have ev : encR (lowN (rpNeg s) (decval (rpA s)) (decval (rpB s))) = encR (rval s) := rfl
          have hr : ratT' (lowN (rpNeg s) (decval (rpA s)) (decval (rpB s))) = ratT (rval s).1 (rval s).2.1 (rval s).2.2 := rfl
          have hl' : (limbs (rval s).2.1).length ≤ 1000 ∧ (limbs (rval s).2.2).length ≤ 1000 := hl
          rw [makeP, if_neg hz, lowP_eq, ev]
          simp [encR, encRat]
          refine oks_callz [] .wide [encRat (rval s).1 (rval s).2.1 (rval s).2.2] (t_rtext _ _ _ (by omega) (by omega)) (by simp) (by simp; rfl) (by simp [encRat]) ?_
          rintro _ rfl
          refine oks_vc .wide ?_
          by_cases he : ratT (rval s).1 (rval s).2.1 (rval s).2.2 = s
          · simp [he]
            exact hK _ _ (yes (by simp [rOk, hA, hB, hz, hr, he])).symm (by simp [encR, encRat])
          · simp [he]
            refine hK (.tup [.agg [.bool false, .sl none 0 [] [], .sl none 0 [] []], .int .i64 3]) _ (no ?_).symm (by simp [encRat, limbs_zero])
            simp [rOk, hA, hB, hz, hr, he]
      · rw [pNo _ hB]
        simp [encNat]
        exact hK _ _ (no (by simp [rOk, hB])).symm (by simp [encRat, limbs_zero])
    · rw [pNo _ hA]
      simp [encNat]
      refine oks_callz [] .wide [.str [49]] hcB (by simp) (by simp; rfl) (by simp) ?_
      rintro _ rfl
      refine oks_vc .wide ?_
      by_cases hB : isNum (rpB s) = true
      · rw [pOk _ lB hB]
        simp [encNat]
        exact hK _ _ (no (by simp [rOk, hA])).symm (by simp [encRat, limbs_zero])
      · rw [pNo _ hB]
        simp [encNat]
        exact hK _ _ (no (by simp [rOk, hA])).symm (by simp [encRat, limbs_zero])
end Go.Dl
