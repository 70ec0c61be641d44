/- hornbeamlaw12.ValueBack, walked. -/
import Derived.Test.YtjmhdfcmghmgjaaDoorVcH
import Derived.Test.YtjmhdfcmghmgjaaDoorBkA
set_option linter.unusedVariables false
set_option linter.unusedSimpArgs false
set_option maxRecDepth 1000000
namespace Go.Dl
open Go.Proofs

theorem rOk_head (s : List UInt8) (h : rOk s = true) : s ≠ [63] ∧ (cutPre 58 s).2 = false := by
  have hA : isNum (rpA s) = true := by
    simp only [rOk, Bool.and_eq_true] at h
    exact h.1.1.1
  cases s with
  | nil => simp [cutPre]
  | cons c r =>
    refine ⟨?_, ?_⟩
    · rintro e
      rw [e] at hA
      revert hA; decide
    · by_cases hc : c = 58
      · subst hc
        exfalso
        have e : rpA (58 :: r) = 58 :: (cutC 47 r).1 := by
          simp [rpA, cutPre, cutC]
        rw [e] at hA
        simp [isNum, isDig] at hA
      · simp [cutPre, hc]
theorem vparse_num (s : List UInt8) (h : rOk s = true) : vparseP s = .tup [.agg (encV ⟨1, s, []⟩), .int .i64 0] := by
  obtain ⟨h1, h2⟩ := rOk_head s h
  unfold vparseP
  rw [if_neg h1, if_neg (by rw [h2]; decide), if_pos h]
/-- what is told of a value that can be is read as it was -/
theorem vparse_text (v : Val) (h : validP v = true) : vparseP (textP v) = .tup [.agg (encV v), .int .i64 0] := by
  obtain ⟨k, n, c⟩ := v
  by_cases h0 : k = 0
  · subst h0
    simp [validP] at h
    obtain ⟨rfl, rfl⟩ := h
    rfl
  · by_cases h2 : k = 2
    · subst h2
      have h' := h
      simp [validP] at h
      obtain ⟨rfl, hc⟩ := h
      have e : textP ⟨2, [], c⟩ = 58 :: c := by simp [textP, h']
      rw [e]
      unfold vparseP
      rw [if_neg (by simp), if_pos (by simp [cutPre]), if_neg (by simp [cutPre]; omega)]
      simp [cutPre]
    · have h' := h
      simp [validP, h0, h2, numOk] at h
      obtain ⟨⟨rfl, rfl⟩, hr⟩ := h
      have e : textP ⟨1, n, []⟩ = n := by simp [textP, h']
      rw [e]
      exact vparse_num n hr

set_option maxHeartbeats 4000000 in
theorem t_vback (v : Val) (s : List UInt8) : PCall Tryd.prog 4 [.agg (encV v), .str s] (· = .bool true) := by
  refine pcall_vcz c_vback (by simp [c_vback]) fun x K hK => ?_
  have yes : K (.bool true) := hK _ _ rfl (by simp)
  simp [c_vback, encV]
  refine oks_callz [13] .wide [.sl none 3 (encVs [v]) []] (r_row [v]) (by simp) (by simp; rfl) (by simp [encVs, encV]) ?_
  rintro _ ⟨b1, rfl, hb1⟩
  refine oks_vc .wide ?_
  cases b1 with
  | false =>
    simp
    refine oks_skipc .wide (by simp) (oks_vc .wide ?_)
    simp
    refine oks_callz [] .wide [] t_alive12 (by simp) (by simp; rfl) (by simp) ?_
    rintro _ rfl
    refine oks_vc .wide ?_
    simp
    exact yes
  | true =>
    have hv2 : v.num.length ≤ 200 := (hb1 rfl).2 v (by simp)
    by_cases hl : 300 < s.length
    · simp [show (300 : Int) < (s.length : Int) by omega]
      refine oks_skipc .wide (by simp) (oks_vc .wide ?_)
      simp
      refine oks_callz [] .wide [] t_alive12 (by simp) (by simp; rfl) (by simp) ?_
      rintro _ rfl
      refine oks_vc .wide ?_
      simp
      exact yes
    · simp [show ¬ (300 : Int) < (s.length : Int) by omega, show (s.length : Int) ≤ 300 by omega]
      refine oks_callz [] .wide [] t_alive12 (by simp) (by simp; rfl) (by simp) ?_
      rintro _ rfl
      refine oks_vc .wide ?_
      simp
      refine oks_callz [] .wide [.str s] (t_rparse s (by omega)) (by simp) (by simp; rfl) (by simp) ?_
      rintro _ rfl
      refine oks_vc .wide ?_
      by_cases hr : rOk s = true
      · have hrt : ratT (rval s).1 (rval s).2.1 (rval s).2.2 = s := by
          have := hr
          simp only [rOk, Bool.and_eq_true, decide_eq_true_eq] at this
          exact this.2
        have hrl := rval_len s (by omega) hr
        have hval : validP ⟨1, s, []⟩ = true := by simp [validP, numOk, hr]
        rw [rparseP, if_pos hr]
        simp [encR, encRat]
        refine oks_callz [] .wide [encRat (rval s).1 (rval s).2.1 (rval s).2.2] (t_vof (rval s).1 (rval s).2.1 (rval s).2.2 (by omega) (by omega)) (by simp) (by simp; rfl) (by simp [encRat]) ?_
        rintro _ rfl
        refine oks_vc .wide ?_
        rw [hrt]
        simp [encV]
        refine oks_callz [] .wide [.str s] (t_vparse s (by omega)) (by simp) (by simp; rfl) (by simp) ?_
        rintro _ rfl
        refine oks_vc .wide ?_
        rw [vparse_num s hr]
        simp [encV]
        refine oks_callz [] .wide [.agg (encV ⟨1, s, []⟩)] (t_valid ⟨1, s, []⟩ (show s.length ≤ 1000 by omega)) (by simp) (by simp; rfl) (by simp [encV]) ?_
        rintro _ rfl
        refine oks_vc .wide ?_
        simp [hval]
        refine oks_callz [] .wide [.agg (encV v)] (t_valid v (by omega)) (by simp) (by simp; rfl) (by simp [encV]) ?_
        rintro _ rfl
        refine oks_vc .wide ?_
        by_cases hv : validP v = true
        · simp [hv]
          refine oks_callz [] .wide [.agg (encV v)] (t_vtext v (by omega)) (by simp) (by simp; rfl) (by simp [encV]) ?_
          rintro _ rfl
          refine oks_vc .wide ?_
          simp
          have htl : (textP v).length ≤ 1000 := by
            have h' := hv
            unfold textP
            rw [if_pos hv]
            split
            · simp
            · split
              · rename_i h0 h2
                simp [validP, h2] at h'
                simp
                omega
              · omega
          refine oks_callz [] .wide [.str (textP v)] (t_vparse (textP v) htl) (by simp) (by simp; rfl) (by simp) ?_
          rintro _ rfl
          refine oks_vc .wide ?_
          rw [vparse_text v hv]
          simp [encV]
          exact yes
        · simp [hv]
          refine oks_callz [] .wide [.agg (encV v)] (t_vtext v (by omega)) (by simp) (by simp; rfl) (by simp [encV]) ?_
          rintro _ rfl
          refine oks_vc .wide ?_
          simp [textP, hv]
          exact yes
      · rw [rparseP, if_neg hr]
        simp [encRat]
        refine oks_callz [] .wide [.agg (encV v)] (t_valid v (by omega)) (by simp) (by simp; rfl) (by simp [encV]) ?_
        rintro _ rfl
        refine oks_vc .wide ?_
        by_cases hv : validP v = true
        · simp [hv]
          refine oks_callz [] .wide [.agg (encV v)] (t_vtext v (by omega)) (by simp) (by simp; rfl) (by simp [encV]) ?_
          rintro _ rfl
          refine oks_vc .wide ?_
          simp
          have htl : (textP v).length ≤ 1000 := by
            have h' := hv
            unfold textP
            rw [if_pos hv]
            split
            · simp
            · split
              · rename_i h0 h2
                simp [validP, h2] at h'
                simp
                omega
              · omega
          refine oks_callz [] .wide [.str (textP v)] (t_vparse (textP v) htl) (by simp) (by simp; rfl) (by simp) ?_
          rintro _ rfl
          refine oks_vc .wide ?_
          rw [vparse_text v hv]
          simp [encV]
          exact yes
        · simp [hv]
          refine oks_callz [] .wide [.agg (encV v)] (t_vtext v (by omega)) (by simp) (by simp; rfl) (by simp [encV]) ?_
          rintro _ rfl
          refine oks_vc .wide ?_
          simp [textP, hv]
          exact yes
end Go.Dl
