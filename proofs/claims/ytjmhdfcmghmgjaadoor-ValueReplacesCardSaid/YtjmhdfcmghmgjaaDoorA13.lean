/- Contracts of hornbeamref1: RatParse; hornbeamref12: Num, Valid. Contracts of hornbeambook: Room, values, Values, Row. -/
import Derived.Test.YtjmhdfcmghmgjaaDoorA12
set_option linter.unusedVariables false
set_option linter.unusedSimpArgs false
set_option maxRecDepth 1000000
namespace Go.Dl
open Go.Proofs

def rqI (t s : List UInt8) (ng : Bool) (y : Nat × Int) : St := ⟨92, [(8, .p (.int .i64 (y.1 : Int))), (7, .p (.int .i64 y.2)), (6, .p (.str [49])), (5, .p (.bool ng)), (4, .p (.str t)), (0, .p (.str s)), (2, .ptr 2 3 0 0)], [(2, ⟨false, 3, .p [[.bool false, .sl (some true) 0 [] [], .sl (some true) 0 [] []]]⟩)]⟩
def NoC (t : List UInt8) : Prop := ∀ x, x ∈ t → x ≠ 47
def RqAt (t : List UInt8) (y : Nat × Int) : Prop := (y.2 = -1 ∧ y.1 ≤ t.length ∧ NoC (t.take y.1)) ∨ ∃ p : Nat, y.2 = (p : Int) ∧ y.1 = p + 1 ∧ p < t.length ∧ t[p]? = some 47 ∧ NoC (t.take p)
theorem limbs_decvalD (s : List UInt8) (h : isNum s = true) : (limbsD (decval s)).length ≤ s.length := by
  have hd : s.all isDig = true := by unfold isNum at h; rw [Bool.and_eq_true] at h; exact h.1
  have h1 := decval_lt s hd
  rcases Nat.eq_zero_or_pos (limbsD (decval s)).length with h0 | h0
  · omega
  · have h2 := limbs_geD (decval s) ((limbsD (decval s)).length - 1) (by omega)
    have h3 : 10 ^ s.length ≤ 10000 ^ s.length := Nat.pow_le_pow_left (by decide) _
    have := (Nat.pow_lt_pow_iff_right (by decide : 1 < 10000)).1 (Nat.lt_of_le_of_lt h2 (Nat.lt_of_lt_of_le h1 h3))
    omega
theorem encD_one : encD (limbsD 1) = [[.int .i64 1]] := by
  rw [show limbsD 1 = [1] by rw [limbs_posD (by decide), show 1 / 10000 = 0 by decide, limbs_zeroD]]
  rfl

set_option maxHeartbeats 4000000 in
theorem r_ratparse (s : List UInt8) (hs : s.length ≤ 100000) : PCall Tryd.prog 46 [.str s] (· = rratparseP s) := by
  refine pcall_vcz c_rratparse (by simp [c_rratparse]) fun x K hK => ?_
  have l1 := cutPre_len 45 s
  have l2 := cutC_len 47 (cutPre 45 s).1
  have lA : (rpA s).length ≤ 100000 := by unfold rpA; omega
  have lB : (rpB s).length ≤ 100000 := by unfold rpB; split; (omega); simp
  have no : rOk s = false → rErr s = 3 → K (.tup [.agg [.bool false, .sl none 0 [] [], .sl none 1 [[.int .i64 1]] []], .int .i64 3]) := fun h h' => hK _ _ rfl (by simp [rratparseP, h, h', errRR, encRR, pD, limbs_zeroD, encD_one])
  have lim : rOk s = false → rErr s = 2 → K (.tup [.agg [.bool false, .sl none 0 [] [], .sl none 1 [[.int .i64 1]] []], .int .i64 2]) := fun h h' => hK _ _ rfl (by simp [rratparseP, h, h', errRR, encRR, pD, limbs_zeroD, encD_one])
  have yes : rOk s = true → K (.tup [rmakeP (rpNeg s) (decval (rpA s)) (decval (rpB s)), .int .i64 0]) := fun h => hK _ _ rfl (by simp [rratparseP, h, rmakeP, pD])
  have pOk : ∀ t : List UInt8, t.length ≤ 1200 → isNum t = true → rparseN t = .tup [pD (decval t), .int .i64 0] := fun t h1 h2 => by simp [rparseN, h2, h1]
  have pLim : ∀ t : List UInt8, ¬ t.length ≤ 1200 → isNum t = true → rparseN t = .tup [pD 0, .int .i64 2] := fun t h1 h2 => by simp [rparseN, h2, h1]
  have pNo : ∀ t : List UInt8, ¬ isNum t = true → rparseN t = .tup [pD 0, .int .i64 3] := fun t h2 => by simp [rparseN, h2]
  rcases s with _ | ⟨b, r⟩
  · have hno : rOk [] = false := by simp [rOk, rpA, cutPre, cutC, isNum]
    simp [c_rratparse]
    refine vc_loop .wide (fun _ : Unit => rqI [] [] false (0, -1)) (fun _ => True) (fun _ => 0) () trivial (sub_iff (by simp [rqI])) ?_
    rintro _ _ Q k1 k2
    simp [rqI]
    refine k2 _ _ (by simp) ?_
    simp
    refine oks_callz [] .wide [.str []] (r_parse [] (by simp)) (by simp) (by simp; rfl) (by simp) ?_
    rintro _ rfl
    refine oks_vc .wide ?_
    rw [pNo _ (by simp [isNum])]
    simp [pD]
    refine oks_callz [] .wide [.str [49]] (r_parse [49] (by simp)) (by simp) (by simp; rfl) (by simp) ?_
    rintro _ rfl
    refine oks_vc .wide ?_
    rw [pOk _ (by decide) (by decide +kernel)]
    simp [pD]
    exact no hno (by simp [rErr, rpA, cutPre, cutC, isNum])
  · by_cases hb : b = 45
    · have ht : r = (cutPre 45 (b :: r)).1 := by simp [cutPre, hb]
      have hneg : rpNeg (b :: r) = true := by simp [rpNeg, cutPre, hb]
      have hb' : (b.toNat : Int) = 45 := by rw [hb]; rfl
      obtain ⟨s, hse⟩ : ∃ s, s = b :: r := ⟨_, rfl⟩
      rw [← hse] at hs l1 l2 lA lB no lim yes ht hneg
      simp [c_rratparse, hb', show (0 : Int) < (r.length : Int) + 1 by omega]
      simp only [← hse]
      refine vc_loop .wide (rqI (r) (s) true) (RqAt (r)) (fun y => (r).length - y.1) (0, -1) (.inl ⟨rfl, by simp, by simp [NoC]⟩) (sub_iff (by simp [rqI])) ?_
      rintro ⟨i, cut⟩ hat Q k1 k2
      have hT : (r).length ≤ 100000 := by rw [ht]; omega
      rcases hat with ⟨h1, h2, h3⟩ | ⟨p, h1, h2, h3, h4, h5⟩
      · simp only at h1 h2 h3
        subst h1
        by_cases hi : i = (r).length
        · subst hi
          rw [List.take_length] at h3
          have hcc : cutC 47 (cutPre 45 s).1 = (r, [], false) := by rw [← ht]; exact cutC_no 47 _ h3
          have eA : rpA s = r := by simp [rpA, hcc]
          have eB : rpB s = [49] := by simp [rpB, hcc]
          have hcA := r_parse (rpA s) lA
          have hcB := r_parse (rpB s) lB
          conv at hcA => arg 3; rw [eA]
          conv at hcB => arg 3; rw [eB]
          simp [rqI]
          refine k2 _ _ (by simp) ?_
          simp
          refine oks_callz [] .wide [.str (r)] hcA (by simp) (by simp; rfl) (by simp) ?_
          rintro _ rfl
          refine oks_vc .wide ?_
          by_cases hA : isNum (rpA s) = true
          · by_cases lA2 : (rpA s).length ≤ 1200
            · rw [pOk _ lA2 hA]
              have nA := limbs_decvalD _ hA
              simp [pD]
              refine oks_callz [] .wide [.str ([49])] hcB (by simp) (by simp; rfl) (by simp) ?_
              rintro _ rfl
              refine oks_vc .wide ?_
              by_cases hB : isNum (rpB s) = true
              · by_cases lB2 : (rpB s).length ≤ 1200
                · have e3 : rErr s = 3 := by simp [rErr, show ¬ 1200 < (rpA s).length by omega, show ¬ 1200 < (rpB s).length by omega]
                  rw [pOk _ lB2 hB]
                  have nB := limbs_decvalD _ hB
                  by_cases hz : decval (rpB s) = 0
                  · simp [pD, hz, limbs_zeroD]
                    exact no (by simp [rOk, hz]) e3
                  · have hpos := limbs_nzD.2 hz
                    have hne : ¬ limbsD (decval (rpB s)) = [] := fun e => by rw [e] at hpos; simp at hpos
                    have hmk := r_make (rpNeg s) (decval (rpA s)) (decval (rpB s)) hz (by omega) (by omega)
                    rw [hneg] at hmk
                    have hr := rt_eq (rpNeg s) (decval (rpA s)) (decval (rpB s)) hz
                    rw [hneg] at hr
                    have htx := r_rattext (true && decide (decval (rpA s) / Nat.gcd (decval (rpA s)) (decval (rpB s)) ≠ 0)) (decval (rpA s) / Nat.gcd (decval (rpA s)) (decval (rpB s))) (decval (rpB s) / Nat.gcd (decval (rpA s)) (decval (rpB s))) (Nat.le_trans (limbs_monoD (Nat.div_le_self _ _)) (by omega)) (Nat.le_trans (limbs_monoD (Nat.div_le_self _ _)) (by omega))
                    rw [hr] at htx
                    have hrv : rOk s = decide (ratT' (lowN true (decval (rpA s)) (decval (rpB s))) = s) := by simp [rOk, hA, hB, hz, hneg, lA2, lB2]
                    simp [pD, hne]
                    refine oks_callz [] .wide [.bool true, pD (decval (rpA s)), pD (decval (rpB s))] hmk (by simp) (by simp; rfl) (by simp [pD]) ?_
                    rintro _ rfl
                    refine oks_vc .wide ?_
                    rw [hneg] at yes
                    obtain ⟨g, hg⟩ : ∃ g, g = Nat.gcd (decval (rpA s)) (decval (rpB s)) := ⟨_, rfl⟩
                    simp only [rmakeP, encRR, ← hg] at htx yes ⊢
                    obtain ⟨bb, hbb⟩ : ∃ bb, bb = (true && decide (decval (rpA s) / g ≠ 0)) := ⟨_, rfl⟩
                    rw [← hbb] at htx yes ⊢
                    simp [pD]
                    refine oks_callz [] .wide [.agg [.bool bb, pD (decval (rpA s) / g), pD (decval (rpB s) / g)]] htx (by simp) (by simp; rfl) (by simp [pD]) ?_
                    rintro _ rfl
                    refine oks_vc .wide ?_
                    by_cases he : ratT' (lowN true (decval (rpA s)) (decval (rpB s))) = s
                    · simp [he]
                      have := yes (by rw [hrv]; simp [he])
                      simpa [pD] using this
                    · simp [he]
                      exact no (by rw [hrv]; simp [he]) e3
                · have e2 : rErr s = 2 := by simp [rErr, hA, hB, show 1200 < (rpB s).length by omega]
                  rw [pLim _ lB2 hB]
                  simp [pD]
                  exact lim (by simp [rOk, lB2]) e2
              · rw [pNo _ hB]
                simp [pD]
                exact no (by simp [rOk, hB]) (by simp [rErr, hB])
            · rw [pLim _ lA2 hA]
              simp [pD]
              refine oks_callz [] .wide [.str ([49])] hcB (by simp) (by simp; rfl) (by simp) ?_
              rintro _ rfl
              refine oks_vc .wide ?_
              by_cases hB : isNum (rpB s) = true
              · have e2 : rErr s = 2 := by simp [rErr, hA, hB, show 1200 < (rpA s).length by omega]
                by_cases lB2 : (rpB s).length ≤ 1200
                · rw [pOk _ lB2 hB]
                  simp [pD]
                  exact lim (by simp [rOk, lA2]) e2
                · rw [pLim _ lB2 hB]
                  simp [pD]
                  exact lim (by simp [rOk, lA2]) e2
              · rw [pNo _ hB]
                simp [pD]
                exact no (by simp [rOk, hB]) (by simp [rErr, hB])
          · have e3 : rErr s = 3 := by simp [rErr, hA]
            rw [pNo _ hA]
            simp [pD]
            refine oks_callz [] .wide [.str ([49])] hcB (by simp) (by simp; rfl) (by simp) ?_
            rintro _ rfl
            refine oks_vc .wide ?_
            by_cases hB : isNum (rpB s) = true
            · by_cases lB2 : (rpB s).length ≤ 1200
              · rw [pOk _ lB2 hB]
                simp [pD]
                exact no (by simp [rOk, hA]) e3
              · rw [pLim _ lB2 hB]
                simp [pD]
                exact no (by simp [rOk, hA]) e3
            · rw [pNo _ hB]
              simp [pD]
              exact no (by simp [rOk, hA]) e3
        · have hlt : i < (r).length := by omega
          have hw : IntKind.i64.wrap ((i : Int) + 1) = (i : Int) + 1 := wrap_i64 (by omega)
          by_cases hc : (r)[i] = 47
          · have hc' : (((r)[i]).toNat : Int) = 47 := by rw [hc]; rfl
            simp [rqI, hlt, hc', hw]
            exact k1 _ (i + 1, (i : Int)) (.inr ⟨i, rfl, rfl, hlt, by rw [List.getElem?_eq_getElem hlt, hc], h3⟩) (by simp only; omega) (sub_iff (by simp [rqI]))
          · have hc' : ¬ (((r)[i]).toNat : Int) = 47 := fun e => hc (UInt8.toNat_inj.1 (by have h47 : (47 : UInt8).toNat = 47 := rfl; omega))
            simp [rqI, hlt, hc', hw]
            refine k1 _ (i + 1, -1) (.inl ⟨rfl, by simp only; omega, ?_⟩) (by simp only; omega) (sub_iff (by simp [rqI]))
            simp only
            intro x hx
            rw [← List.take_append_getElem hlt] at hx
            rcases List.mem_append.1 hx with hx | hx
            · exact h3 x hx
            · simp at hx; rw [hx]; exact hc
      · simp only at h1 h2 h3 h4 h5
        subst h1 h2
        have hsplit : r = (r).take p ++ 47 :: (r).drop (p + 1) := by
          have e1 : (r).drop p = 47 :: (r).drop (p + 1) := by
            rw [List.drop_eq_getElem_cons h3]
            rw [List.getElem?_eq_getElem h3] at h4
            rw [Option.some.inj h4]
          rw [← e1, List.take_append_drop]
        have hcc : cutC 47 (cutPre 45 s).1 = ((r).take p, (r).drop (p + 1), true) := by
          have := cutC_at 47 ((r).drop (p + 1)) ((r).take p) h5
          rw [← hsplit, ht] at this
          rw [this]
          simp only [← ht]
        have eA : rpA s = (r).take p := by simp [rpA, hcc]
        have eB : rpB s = (r).drop (p + 1) := by simp [rpB, hcc]
        have hcA := r_parse (rpA s) lA
        have hcB := r_parse (rpB s) lB
        conv at hcA => arg 3; rw [eA]
        conv at hcB => arg 3; rw [eB]
        have hw : IntKind.i64.wrap ((p : Int) + 1) = (p : Int) + 1 := wrap_i64 (by omega)
        by_cases hpl : p + 1 < (r).length <;>
        · have hpi : ((p : Int) + 1 < ((r).length : Int)) = (p + 1 < (r).length) := by apply propext; omega
          have hp0 : ¬ (p : Int) < 0 := by omega
          simp [rqI, hpi, hpl, hp0]
          refine k2 _ _ (by simp) ?_
          simp
          refine vc_draw .wide rfl ?_
          simp [hw, show p ≤ (r).length by omega, show p + 1 ≤ (r).length by omega, show (0 : Int) ≤ (p : Int) + 1 by omega, show ((p : Int) + 1).toNat = p + 1 by omega]
          have hdt : ((r).drop (p + 1)).take ((r).length - (p + 1)) = (r).drop (p + 1) := List.take_of_length_le (by simp)
          simp only [hdt]
          refine oks_callz [] .wide [.str ((r).take p)] hcA (by simp) (by simp; rfl) (by simp) ?_
          rintro _ rfl
          refine oks_vc .wide ?_
          by_cases hA : isNum (rpA s) = true
          · by_cases lA2 : (rpA s).length ≤ 1200
            · rw [pOk _ lA2 hA]
              have nA := limbs_decvalD _ hA
              simp [pD]
              refine oks_callz [] .wide [.str ((r).drop (p + 1))] hcB (by simp) (by simp; rfl) (by simp) ?_
              rintro _ rfl
              refine oks_vc .wide ?_
              by_cases hB : isNum (rpB s) = true
              · by_cases lB2 : (rpB s).length ≤ 1200
                · have e3 : rErr s = 3 := by simp [rErr, show ¬ 1200 < (rpA s).length by omega, show ¬ 1200 < (rpB s).length by omega]
                  rw [pOk _ lB2 hB]
                  have nB := limbs_decvalD _ hB
                  by_cases hz : decval (rpB s) = 0
                  · simp [pD, hz, limbs_zeroD]
                    exact no (by simp [rOk, hz]) e3
                  · have hpos := limbs_nzD.2 hz
                    have hne : ¬ limbsD (decval (rpB s)) = [] := fun e => by rw [e] at hpos; simp at hpos
                    have hmk := r_make (rpNeg s) (decval (rpA s)) (decval (rpB s)) hz (by omega) (by omega)
                    rw [hneg] at hmk
                    have hr := rt_eq (rpNeg s) (decval (rpA s)) (decval (rpB s)) hz
                    rw [hneg] at hr
                    have htx := r_rattext (true && decide (decval (rpA s) / Nat.gcd (decval (rpA s)) (decval (rpB s)) ≠ 0)) (decval (rpA s) / Nat.gcd (decval (rpA s)) (decval (rpB s))) (decval (rpB s) / Nat.gcd (decval (rpA s)) (decval (rpB s))) (Nat.le_trans (limbs_monoD (Nat.div_le_self _ _)) (by omega)) (Nat.le_trans (limbs_monoD (Nat.div_le_self _ _)) (by omega))
                    rw [hr] at htx
                    have hrv : rOk s = decide (ratT' (lowN true (decval (rpA s)) (decval (rpB s))) = s) := by simp [rOk, hA, hB, hz, hneg, lA2, lB2]
                    simp [pD, hne]
                    refine oks_callz [] .wide [.bool true, pD (decval (rpA s)), pD (decval (rpB s))] hmk (by simp) (by simp; rfl) (by simp [pD]) ?_
                    rintro _ rfl
                    refine oks_vc .wide ?_
                    rw [hneg] at yes
                    obtain ⟨g, hg⟩ : ∃ g, g = Nat.gcd (decval (rpA s)) (decval (rpB s)) := ⟨_, rfl⟩
                    simp only [rmakeP, encRR, ← hg] at htx yes ⊢
                    obtain ⟨bb, hbb⟩ : ∃ bb, bb = (true && decide (decval (rpA s) / g ≠ 0)) := ⟨_, rfl⟩
                    rw [← hbb] at htx yes ⊢
                    simp [pD]
                    refine oks_callz [] .wide [.agg [.bool bb, pD (decval (rpA s) / g), pD (decval (rpB s) / g)]] htx (by simp) (by simp; rfl) (by simp [pD]) ?_
                    rintro _ rfl
                    refine oks_vc .wide ?_
                    by_cases he : ratT' (lowN true (decval (rpA s)) (decval (rpB s))) = s
                    · simp [he]
                      have := yes (by rw [hrv]; simp [he])
                      simpa [pD] using this
                    · simp [he]
                      exact no (by rw [hrv]; simp [he]) e3
                · have e2 : rErr s = 2 := by simp [rErr, hA, hB, show 1200 < (rpB s).length by omega]
                  rw [pLim _ lB2 hB]
                  simp [pD]
                  exact lim (by simp [rOk, lB2]) e2
              · rw [pNo _ hB]
                simp [pD]
                exact no (by simp [rOk, hB]) (by simp [rErr, hB])
            · rw [pLim _ lA2 hA]
              simp [pD]
              refine oks_callz [] .wide [.str ((r).drop (p + 1))] hcB (by simp) (by simp; rfl) (by simp) ?_
              rintro _ rfl
              refine oks_vc .wide ?_
              by_cases hB : isNum (rpB s) = true
              · have e2 : rErr s = 2 := by simp [rErr, hA, hB, show 1200 < (rpA s).length by omega]
                by_cases lB2 : (rpB s).length ≤ 1200
                · rw [pOk _ lB2 hB]
                  simp [pD]
                  exact lim (by simp [rOk, lA2]) e2
                · rw [pLim _ lB2 hB]
                  simp [pD]
                  exact lim (by simp [rOk, lA2]) e2
              · rw [pNo _ hB]
                simp [pD]
                exact no (by simp [rOk, hB]) (by simp [rErr, hB])
          · have e3 : rErr s = 3 := by simp [rErr, hA]
            rw [pNo _ hA]
            simp [pD]
            refine oks_callz [] .wide [.str ((r).drop (p + 1))] hcB (by simp) (by simp; rfl) (by simp) ?_
            rintro _ rfl
            refine oks_vc .wide ?_
            by_cases hB : isNum (rpB s) = true
            · by_cases lB2 : (rpB s).length ≤ 1200
              · rw [pOk _ lB2 hB]
                simp [pD]
                exact no (by simp [rOk, hA]) e3
              · rw [pLim _ lB2 hB]
                simp [pD]
                exact no (by simp [rOk, hA]) e3
            · rw [pNo _ hB]
              simp [pD]
              exact no (by simp [rOk, hA]) e3
    · have ht : b :: r = (cutPre 45 (b :: r)).1 := by simp [cutPre, hb]
      have hneg : rpNeg (b :: r) = false := by simp [rpNeg, cutPre, hb]
      have hb' : ¬ (b.toNat : Int) = 45 := fun e => hb (UInt8.toNat_inj.1 (by have h45 : (45 : UInt8).toNat = 45 := rfl; omega))
      have hb'' : ((b.toNat : Int) == 45) = false := by simpa using hb'
      obtain ⟨s, hse⟩ : ∃ s, s = b :: r := ⟨_, rfl⟩
      rw [← hse] at hs l1 l2 lA lB no lim yes ht hneg
      simp [c_rratparse, hb', hb'', show (0 : Int) < (r.length : Int) + 1 by omega]
      simp only [← hse]
      refine vc_loop .wide (rqI (s) (s) false) (RqAt (s)) (fun y => (s).length - y.1) (0, -1) (.inl ⟨rfl, by simp, by simp [NoC]⟩) (sub_iff (by simp [rqI])) ?_
      rintro ⟨i, cut⟩ hat Q k1 k2
      have hT : (s).length ≤ 100000 := by rw [ht]; omega
      rcases hat with ⟨h1, h2, h3⟩ | ⟨p, h1, h2, h3, h4, h5⟩
      · simp only at h1 h2 h3
        subst h1
        by_cases hi : i = (s).length
        · subst hi
          rw [List.take_length] at h3
          have hcc : cutC 47 (cutPre 45 s).1 = (s, [], false) := by rw [← ht]; exact cutC_no 47 _ h3
          have eA : rpA s = s := by simp [rpA, hcc]
          have eB : rpB s = [49] := by simp [rpB, hcc]
          have hcA := r_parse (rpA s) lA
          have hcB := r_parse (rpB s) lB
          conv at hcA => arg 3; rw [eA]
          conv at hcB => arg 3; rw [eB]
          simp [rqI]
          refine k2 _ _ (by simp) ?_
          simp
          refine oks_callz [] .wide [.str (s)] hcA (by simp) (by simp; rfl) (by simp) ?_
          rintro _ rfl
          refine oks_vc .wide ?_
          by_cases hA : isNum (rpA s) = true
          · by_cases lA2 : (rpA s).length ≤ 1200
            · rw [pOk _ lA2 hA]
              have nA := limbs_decvalD _ hA
              simp [pD]
              refine oks_callz [] .wide [.str ([49])] hcB (by simp) (by simp; rfl) (by simp) ?_
              rintro _ rfl
              refine oks_vc .wide ?_
              by_cases hB : isNum (rpB s) = true
              · by_cases lB2 : (rpB s).length ≤ 1200
                · have e3 : rErr s = 3 := by simp [rErr, show ¬ 1200 < (rpA s).length by omega, show ¬ 1200 < (rpB s).length by omega]
                  rw [pOk _ lB2 hB]
                  have nB := limbs_decvalD _ hB
                  by_cases hz : decval (rpB s) = 0
                  · simp [pD, hz, limbs_zeroD]
                    exact no (by simp [rOk, hz]) e3
                  · have hpos := limbs_nzD.2 hz
                    have hne : ¬ limbsD (decval (rpB s)) = [] := fun e => by rw [e] at hpos; simp at hpos
                    have hmk := r_make (rpNeg s) (decval (rpA s)) (decval (rpB s)) hz (by omega) (by omega)
                    rw [hneg] at hmk
                    have hr := rt_eq (rpNeg s) (decval (rpA s)) (decval (rpB s)) hz
                    rw [hneg] at hr
                    have htx := r_rattext (false && decide (decval (rpA s) / Nat.gcd (decval (rpA s)) (decval (rpB s)) ≠ 0)) (decval (rpA s) / Nat.gcd (decval (rpA s)) (decval (rpB s))) (decval (rpB s) / Nat.gcd (decval (rpA s)) (decval (rpB s))) (Nat.le_trans (limbs_monoD (Nat.div_le_self _ _)) (by omega)) (Nat.le_trans (limbs_monoD (Nat.div_le_self _ _)) (by omega))
                    rw [hr] at htx
                    have hrv : rOk s = decide (ratT' (lowN false (decval (rpA s)) (decval (rpB s))) = s) := by simp [rOk, hA, hB, hz, hneg, lA2, lB2]
                    simp [pD, hne]
                    refine oks_callz [] .wide [.bool false, pD (decval (rpA s)), pD (decval (rpB s))] hmk (by simp) (by simp; rfl) (by simp [pD]) ?_
                    rintro _ rfl
                    refine oks_vc .wide ?_
                    rw [hneg] at yes
                    obtain ⟨g, hg⟩ : ∃ g, g = Nat.gcd (decval (rpA s)) (decval (rpB s)) := ⟨_, rfl⟩
                    simp only [rmakeP, encRR, ← hg] at htx yes ⊢
                    obtain ⟨bb, hbb⟩ : ∃ bb, bb = (false && decide (decval (rpA s) / g ≠ 0)) := ⟨_, rfl⟩
                    rw [← hbb] at htx yes ⊢
                    simp [pD]
                    refine oks_callz [] .wide [.agg [.bool bb, pD (decval (rpA s) / g), pD (decval (rpB s) / g)]] htx (by simp) (by simp; rfl) (by simp [pD]) ?_
                    rintro _ rfl
                    refine oks_vc .wide ?_
                    by_cases he : ratT' (lowN false (decval (rpA s)) (decval (rpB s))) = s
                    · simp [he]
                      have := yes (by rw [hrv]; simp [he])
                      simpa [pD] using this
                    · simp [he]
                      exact no (by rw [hrv]; simp [he]) e3
                · have e2 : rErr s = 2 := by simp [rErr, hA, hB, show 1200 < (rpB s).length by omega]
                  rw [pLim _ lB2 hB]
                  simp [pD]
                  exact lim (by simp [rOk, lB2]) e2
              · rw [pNo _ hB]
                simp [pD]
                exact no (by simp [rOk, hB]) (by simp [rErr, hB])
            · rw [pLim _ lA2 hA]
              simp [pD]
              refine oks_callz [] .wide [.str ([49])] hcB (by simp) (by simp; rfl) (by simp) ?_
              rintro _ rfl
              refine oks_vc .wide ?_
              by_cases hB : isNum (rpB s) = true
              · have e2 : rErr s = 2 := by simp [rErr, hA, hB, show 1200 < (rpA s).length by omega]
                by_cases lB2 : (rpB s).length ≤ 1200
                · rw [pOk _ lB2 hB]
                  simp [pD]
                  exact lim (by simp [rOk, lA2]) e2
                · rw [pLim _ lB2 hB]
                  simp [pD]
                  exact lim (by simp [rOk, lA2]) e2
              · rw [pNo _ hB]
                simp [pD]
                exact no (by simp [rOk, hB]) (by simp [rErr, hB])
          · have e3 : rErr s = 3 := by simp [rErr, hA]
            rw [pNo _ hA]
            simp [pD]
            refine oks_callz [] .wide [.str ([49])] hcB (by simp) (by simp; rfl) (by simp) ?_
            rintro _ rfl
            refine oks_vc .wide ?_
            by_cases hB : isNum (rpB s) = true
            · by_cases lB2 : (rpB s).length ≤ 1200
              · rw [pOk _ lB2 hB]
                simp [pD]
                exact no (by simp [rOk, hA]) e3
              · rw [pLim _ lB2 hB]
                simp [pD]
                exact no (by simp [rOk, hA]) e3
            · rw [pNo _ hB]
              simp [pD]
              exact no (by simp [rOk, hA]) e3
        · have hlt : i < (s).length := by omega
          have hw : IntKind.i64.wrap ((i : Int) + 1) = (i : Int) + 1 := wrap_i64 (by omega)
          by_cases hc : (s)[i] = 47
          · have hc' : (((s)[i]).toNat : Int) = 47 := by rw [hc]; rfl
            simp [rqI, hlt, hc', hw]
            exact k1 _ (i + 1, (i : Int)) (.inr ⟨i, rfl, rfl, hlt, by rw [List.getElem?_eq_getElem hlt, hc], h3⟩) (by simp only; omega) (sub_iff (by simp [rqI]))
          · have hc' : ¬ (((s)[i]).toNat : Int) = 47 := fun e => hc (UInt8.toNat_inj.1 (by have h47 : (47 : UInt8).toNat = 47 := rfl; omega))
            simp [rqI, hlt, hc', hw]
            refine k1 _ (i + 1, -1) (.inl ⟨rfl, by simp only; omega, ?_⟩) (by simp only; omega) (sub_iff (by simp [rqI]))
            simp only
            intro x hx
            rw [← List.take_append_getElem hlt] at hx
            rcases List.mem_append.1 hx with hx | hx
            · exact h3 x hx
            · simp at hx; rw [hx]; exact hc
      · simp only at h1 h2 h3 h4 h5
        subst h1 h2
        have hsplit : s = (s).take p ++ 47 :: (s).drop (p + 1) := by
          have e1 : (s).drop p = 47 :: (s).drop (p + 1) := by
            rw [List.drop_eq_getElem_cons h3]
            rw [List.getElem?_eq_getElem h3] at h4
            rw [Option.some.inj h4]
          rw [← e1, List.take_append_drop]
        have hcc : cutC 47 (cutPre 45 s).1 = ((s).take p, (s).drop (p + 1), true) := by
          have := cutC_at 47 ((s).drop (p + 1)) ((s).take p) h5
          rw [← hsplit, ht] at this
          rw [this]
          simp only [← ht]
        have eA : rpA s = (s).take p := by simp [rpA, hcc]
        have eB : rpB s = (s).drop (p + 1) := by simp [rpB, hcc]
        have hcA := r_parse (rpA s) lA
        have hcB := r_parse (rpB s) lB
        conv at hcA => arg 3; rw [eA]
        conv at hcB => arg 3; rw [eB]
        have hw : IntKind.i64.wrap ((p : Int) + 1) = (p : Int) + 1 := wrap_i64 (by omega)
        by_cases hpl : p + 1 < (s).length <;>
        · have hpi : ((p : Int) + 1 < ((s).length : Int)) = (p + 1 < (s).length) := by apply propext; omega
          have hp0 : ¬ (p : Int) < 0 := by omega
          simp [rqI, hpi, hpl, hp0]
          refine k2 _ _ (by simp) ?_
          simp
          refine vc_draw .wide rfl ?_
          simp [hw, show p ≤ (s).length by omega, show p + 1 ≤ (s).length by omega, show (0 : Int) ≤ (p : Int) + 1 by omega, show ((p : Int) + 1).toNat = p + 1 by omega]
          have hdt : ((s).drop (p + 1)).take ((s).length - (p + 1)) = (s).drop (p + 1) := List.take_of_length_le (by simp)
          simp only [hdt]
          refine oks_callz [] .wide [.str ((s).take p)] hcA (by simp) (by simp; rfl) (by simp) ?_
          rintro _ rfl
          refine oks_vc .wide ?_
          by_cases hA : isNum (rpA s) = true
          · by_cases lA2 : (rpA s).length ≤ 1200
            · rw [pOk _ lA2 hA]
              have nA := limbs_decvalD _ hA
              simp [pD]
              refine oks_callz [] .wide [.str ((s).drop (p + 1))] hcB (by simp) (by simp; rfl) (by simp) ?_
              rintro _ rfl
              refine oks_vc .wide ?_
              by_cases hB : isNum (rpB s) = true
              · by_cases lB2 : (rpB s).length ≤ 1200
                · have e3 : rErr s = 3 := by simp [rErr, show ¬ 1200 < (rpA s).length by omega, show ¬ 1200 < (rpB s).length by omega]
                  rw [pOk _ lB2 hB]
                  have nB := limbs_decvalD _ hB
                  by_cases hz : decval (rpB s) = 0
                  · simp [pD, hz, limbs_zeroD]
                    exact no (by simp [rOk, hz]) e3
                  · have hpos := limbs_nzD.2 hz
                    have hne : ¬ limbsD (decval (rpB s)) = [] := fun e => by rw [e] at hpos; simp at hpos
                    have hmk := r_make (rpNeg s) (decval (rpA s)) (decval (rpB s)) hz (by omega) (by omega)
                    rw [hneg] at hmk
                    have hr := rt_eq (rpNeg s) (decval (rpA s)) (decval (rpB s)) hz
                    rw [hneg] at hr
                    have htx := r_rattext (false && decide (decval (rpA s) / Nat.gcd (decval (rpA s)) (decval (rpB s)) ≠ 0)) (decval (rpA s) / Nat.gcd (decval (rpA s)) (decval (rpB s))) (decval (rpB s) / Nat.gcd (decval (rpA s)) (decval (rpB s))) (Nat.le_trans (limbs_monoD (Nat.div_le_self _ _)) (by omega)) (Nat.le_trans (limbs_monoD (Nat.div_le_self _ _)) (by omega))
                    rw [hr] at htx
                    have hrv : rOk s = decide (ratT' (lowN false (decval (rpA s)) (decval (rpB s))) = s) := by simp [rOk, hA, hB, hz, hneg, lA2, lB2]
                    simp [pD, hne]
                    refine oks_callz [] .wide [.bool false, pD (decval (rpA s)), pD (decval (rpB s))] hmk (by simp) (by simp; rfl) (by simp [pD]) ?_
                    rintro _ rfl
                    refine oks_vc .wide ?_
                    rw [hneg] at yes
                    obtain ⟨g, hg⟩ : ∃ g, g = Nat.gcd (decval (rpA s)) (decval (rpB s)) := ⟨_, rfl⟩
                    simp only [rmakeP, encRR, ← hg] at htx yes ⊢
                    obtain ⟨bb, hbb⟩ : ∃ bb, bb = (false && decide (decval (rpA s) / g ≠ 0)) := ⟨_, rfl⟩
                    rw [← hbb] at htx yes ⊢
                    simp [pD]
                    refine oks_callz [] .wide [.agg [.bool bb, pD (decval (rpA s) / g), pD (decval (rpB s) / g)]] htx (by simp) (by simp; rfl) (by simp [pD]) ?_
                    rintro _ rfl
                    refine oks_vc .wide ?_
                    by_cases he : ratT' (lowN false (decval (rpA s)) (decval (rpB s))) = s
                    · simp [he]
                      have := yes (by rw [hrv]; simp [he])
                      simpa [pD] using this
                    · simp [he]
                      exact no (by rw [hrv]; simp [he]) e3
                · have e2 : rErr s = 2 := by simp [rErr, hA, hB, show 1200 < (rpB s).length by omega]
                  rw [pLim _ lB2 hB]
                  simp [pD]
                  exact lim (by simp [rOk, lB2]) e2
              · rw [pNo _ hB]
                simp [pD]
                exact no (by simp [rOk, hB]) (by simp [rErr, hB])
            · rw [pLim _ lA2 hA]
              simp [pD]
              refine oks_callz [] .wide [.str ((s).drop (p + 1))] hcB (by simp) (by simp; rfl) (by simp) ?_
              rintro _ rfl
              refine oks_vc .wide ?_
              by_cases hB : isNum (rpB s) = true
              · have e2 : rErr s = 2 := by simp [rErr, hA, hB, show 1200 < (rpA s).length by omega]
                by_cases lB2 : (rpB s).length ≤ 1200
                · rw [pOk _ lB2 hB]
                  simp [pD]
                  exact lim (by simp [rOk, lA2]) e2
                · rw [pLim _ lB2 hB]
                  simp [pD]
                  exact lim (by simp [rOk, lA2]) e2
              · rw [pNo _ hB]
                simp [pD]
                exact no (by simp [rOk, hB]) (by simp [rErr, hB])
          · have e3 : rErr s = 3 := by simp [rErr, hA]
            rw [pNo _ hA]
            simp [pD]
            refine oks_callz [] .wide [.str ((s).drop (p + 1))] hcB (by simp) (by simp; rfl) (by simp) ?_
            rintro _ rfl
            refine oks_vc .wide ?_
            by_cases hB : isNum (rpB s) = true
            · by_cases lB2 : (rpB s).length ≤ 1200
              · rw [pOk _ lB2 hB]
                simp [pD]
                exact no (by simp [rOk, hA]) e3
              · rw [pLim _ lB2 hB]
                simp [pD]
                exact no (by simp [rOk, hA]) e3
            · rw [pNo _ hB]
              simp [pD]
              exact no (by simp [rOk, hA]) e3

def validR (v : Val) : Bool := if v.kind = 0 then decide (v.num = []) && decide (v.cat = []) else if v.kind = 1 then numOk v else if v.kind = 2 then decide (v.num = []) && decide (v.cat.length ≤ 60) else false
def rnumR (s : List UInt8) : PV := if rOk s then rmakeP (rpNeg s) (decval (rpA s)) (decval (rpB s)) else errRR
theorem r_num (v : Val) (hs : v.num.length ≤ 100000) : PCall Tryd.prog 19 [.agg (encV v)] (· = .tup [rnumR v.num, .bool (numOk v)]) := by
  obtain ⟨k, s, c⟩ := v
  refine pcall_vcz c_rnum (by simp [c_rnum]) fun x K hK => ?_
  simp [c_rnum, encV]
  refine oks_callz [] .wide [.str s] (r_ratparse s hs) (by simp) (by simp; rfl) (by simp) ?_
  rintro _ rfl
  refine oks_vc .wide ?_
  by_cases hr : rOk s = true
  · by_cases hk : k = 1
    · by_cases hc : c = []
      · simp [rratparseP, hr, rmakeP, pD, hk, hc]
        exact hK _ _ rfl (by simp [rnumR, numOk, hr, hk, hc, rmakeP, pD])
      · simp [rratparseP, hr, rmakeP, pD, hk, hc]
        exact hK _ _ rfl (by simp [rnumR, numOk, hr, hk, hc, rmakeP, pD])
    · simp [rratparseP, hr, rmakeP, pD, hk, show (k == 1) = false by simpa using hk]
      exact hK _ _ rfl (by simp [rnumR, numOk, hr, hk, rmakeP, pD])
  · by_cases hk : k = 1
    · by_cases hc : c = []
      · simp [rratparseP, hr, errRR, encRR, pD, hk, hc]
        exact hK _ _ rfl (by simp [rnumR, numOk, hr, hk, hc, errRR, encRR, pD])
      · simp [rratparseP, hr, errRR, encRR, pD, hk, hc]
        exact hK _ _ rfl (by simp [rnumR, numOk, hr, hk, hc, errRR, encRR, pD])
    · simp [rratparseP, hr, errRR, encRR, pD, hk, show (k == 1) = false by simpa using hk]
      exact hK _ _ rfl (by simp [rnumR, numOk, hr, hk, errRR, encRR, pD])
theorem r_valid (v : Val) (hs : v.num.length ≤ 100000) : PCall Tryd.prog 9 [.agg (encV v)] (· = .bool (validR v)) := by
  obtain ⟨k, s, c⟩ := v
  refine pcall_vcz c_rvalid (by simp [c_rvalid]) fun x K hK => ?_
  by_cases h0 : k = 0
  · by_cases hn : s = []
    · simp [c_rvalid, encV, h0, hn]
      exact hK _ _ rfl (by by_cases hc : c = [] <;> simp [validR, h0, hn, hc])
    · simp [c_rvalid, encV, h0, hn]
      exact hK _ _ rfl (by simp [validR, h0, hn])
  · by_cases h1 : k = 1
    · simp [c_rvalid, encV, h1]
      refine oks_callz [] .wide [.agg (encV ⟨k, s, c⟩)] (r_num ⟨k, s, c⟩ hs) (by simp) (by simp; rfl) (by simp [encV, h1]) ?_
      rintro _ rfl
      refine oks_vc .wide ?_
      by_cases hr : rOk s = true
      · simp [rnumR, hr, rmakeP, pD]
        exact hK _ _ rfl (by simp [validR, h1])
      · simp [rnumR, hr, errRR, encRR, pD]
        exact hK _ _ rfl (by simp [validR, h1])
    · by_cases h2 : k = 2
      · by_cases hn : s = []
        · simp [c_rvalid, encV, h0, h1, h2, hn]
          exact hK _ _ rfl (by simp [validR, h0, h1, hn, h2]; omega)
        · simp [c_rvalid, encV, h0, h1, h2, hn]
          exact hK _ _ rfl (by simp [validR, h0, h1, hn, h2])
      · simp [c_rvalid, encV, h0, h1, h2]
        exact hK _ _ rfl (by simp [validR, h0, h1, h2])
end Go.Dl
set_option linter.unusedVariables false
set_option linter.unusedSimpArgs false
set_option maxRecDepth 1000000
namespace Go.Dl
open Go.Proofs

noncomputable def c_bkroom : { d : DFn // compF Tryd.prog 53 = some d } := by
  refine ⟨?_, ?_⟩
  rotate_left
  · conv => lhs; reduce
noncomputable def c_bkvalues : { d : DFn // compF Tryd.prog 45 = some d } := by
  refine ⟨?_, ?_⟩
  rotate_left
  · conv => lhs; reduce
noncomputable def c_bkValues : { d : DFn // compF Tryd.prog 17 = some d } := by
  refine ⟨?_, ?_⟩
  rotate_left
  · conv => lhs; reduce
noncomputable def c_bkrow : { d : DFn // compF Tryd.prog 7 = some d } := by
  refine ⟨?_, ?_⟩
  rotate_left
  · conv => lhs; reduce

def roomF (room : Int) : List Int → Int
  | [] => room
  | x :: r => if room < 0 ∨ room < x then -1 else roomF (room - x) r
theorem r_room (room : Int) (l : List Int) (hr : -9223372036854775808 ≤ room ∧ room ≤ 9223372036854775807) (hl : ∀ x, x ∈ l → 0 ≤ x) (hlen : l.length ≤ 1000) : PCall Tryd.prog 53 [.int .i64 room, .sl none 1 (encI l) []] (· = .int .i64 (roomF room l)) := by
  refine pcall_vc c_bkroom (by simp [c_bkroom]) fun x K hK => ?_
  simp [c_bkroom]
  refine vc_loop .wide (fun y : Nat × Int => ⟨29, [(5, .p (.int .i64 (y.1 : Int))), (0, .p (.int .i64 y.2)), (1, .p (.sl none 1 (encI l) []))], []⟩)
    (fun y => y.1 ≤ l.length ∧ roomF y.2 (l.drop y.1) = roomF room l ∧ -9223372036854775808 ≤ y.2 ∧ y.2 ≤ 9223372036854775807) (fun y => l.length - y.1) (0, room) ⟨by simp, by simp, hr⟩ (sub_iff (by simp)) ?_
  rintro ⟨i, rm⟩ ⟨h1, h2, h3, h4⟩ Q k1 k2
  simp only at h1 h2 h3 h4
  by_cases hi : i = l.length
  · subst hi
    simp [roomF] at h2
    simp
    refine k2 _ _ (by simp) ?_
    simp
    exact hK _ (by rw [h2])
  · have hlt : i < l.length := by omega
    have hx := hl _ (List.getElem_mem hlt)
    have hw : IntKind.i64.wrap ((i : Int) + 1) = (i : Int) + 1 := wrap_i64 (by omega)
    rw [List.drop_eq_getElem_cons hlt, roomF] at h2
    by_cases c1 : rm < 0
    · rw [if_pos (.inl c1)] at h2
      simp [hlt, c1]
      refine k2 _ _ (by simp) ?_
      simp
      exact hK _ (by rw [← h2])
    · by_cases c2 : rm < l[i]
      · rw [if_pos (.inr c2)] at h2
        simp [hlt, c1, c2]
        refine k2 _ _ (by simp) ?_
        simp
        exact hK _ (by rw [← h2])
      · rw [if_neg (by omega)] at h2
        have hw' : IntKind.i64.wrap (rm - l[i]) = rm - l[i] := wrap_i64 (by omega)
        simp [hlt, c1, c2, hw, hw']
        exact k1 _ (i + 1, rm - l[i]) ⟨by omega, h2, by simp only; omega, by simp only; omega⟩ (by simp only; omega) (sub_iff (by simp))
theorem roomF_le : ∀ (l : List Int) (room : Int), (∀ x, x ∈ l → 0 ≤ x) → -9223372036854775808 ≤ room → (roomF room l ≤ room ∨ roomF room l = -1) ∧ -9223372036854775808 ≤ roomF room l
  | [], room, _, h => ⟨.inl (Int.le_refl _), h⟩
  | x :: r, room, hl, h => by
    have hx := hl x (by simp)
    unfold roomF
    split
    · exact ⟨.inr rfl, by omega⟩
    · rename_i hc
      have := roomF_le r (room - x) (fun y hy => hl y (by simp [hy])) (by omega)
      omega
/-- room that is left behind texts and marks: it was enough for each of them -/
theorem roomF_each : ∀ (l : List Int) (room : Int), (∀ x, x ∈ l → 0 ≤ x) → 0 ≤ roomF room l → (∀ x, x ∈ l → x ≤ room) ∧ roomF room l ≤ room
  | [], room, _, h => ⟨by simp, Int.le_refl _⟩
  | x :: r, room, hl, h => by
    have hx := hl x (by simp)
    unfold roomF at h ⊢
    split
    · rename_i hc; rw [if_pos hc] at h; omega
    · rename_i hc
      rw [if_neg hc] at h
      obtain ⟨h1, h2⟩ := roomF_each r (room - x) (fun y hy => hl y (by simp [hy])) h
      refine ⟨fun y hy => ?_, by omega⟩
      rcases List.mem_cons.1 hy with rfl | hy
      · omega
      · have := h1 y hy; omega

def valI (v : Val) : List Int := [1, (v.num.length : Int), (v.cat.length : Int)]
theorem valI_nn (v : Val) : ∀ x, x ∈ valI v → 0 ≤ x := by intro x hx; simp [valI] at hx; omega
def valuesF (room : Int) : List Val → Int
  | [] => room
  | v :: r => if 0 ≤ room then valuesF (roomF room (valI v)) r else room
theorem r_values (room : Int) (vs : List Val) (hr : -9223372036854775808 ≤ room ∧ room ≤ 9223372036854775807) (hlen : vs.length ≤ 9223372036854775807) : PCall Tryd.prog 45 [.int .i64 room, .sl none 3 (encVs vs) []] (· = .int .i64 (valuesF room vs)) := by
  refine pcall_vc c_bkvalues (by simp [c_bkvalues]) fun x K hK => ?_
  simp [c_bkvalues]
  refine vc_loop .wide (fun y : Nat × Int => ⟨32, [(5, .p (.int .i64 (y.1 : Int))), (0, .p (.int .i64 y.2)), (1, .p (.sl none 3 (encVs vs) []))], []⟩)
    (fun y => y.1 ≤ vs.length ∧ -9223372036854775808 ≤ y.2 ∧ y.2 ≤ 9223372036854775807 ∧ valuesF y.2 (vs.drop y.1) = valuesF room vs) (fun y => vs.length - y.1) (0, room) ⟨by simp, by simp only; omega, by simp only; omega, rfl⟩ (sub_iff (by simp)) ?_
  rintro ⟨i, rm⟩ ⟨h1, h2, h3, h4⟩ Q k1 k2
  simp only at h1 h2 h3 h4
  by_cases hi : i = vs.length
  · subst hi
    simp [valuesF] at h4
    simp
    refine k2 _ _ (by simp) ?_
    simp
    exact hK _ (by rw [h4])
  · have hlt : i < vs.length := by omega
    have hw : IntKind.i64.wrap ((i : Int) + 1) = (i : Int) + 1 := wrap_i64 (by omega)
    rw [List.drop_eq_getElem_cons hlt, valuesF] at h4
    by_cases c1 : 0 ≤ rm
    · rw [if_pos c1] at h4
      have hroom := r_room rm (valI vs[i]) ⟨by omega, h3⟩ (valI_nn _) (by simp [valI])
      have hle := roomF_le (valI vs[i]) rm (valI_nn _) h2
      simp [hlt, c1]
      refine vc_draw .wide rfl ?_
      simp [hlt, encV]
      refine dcall_pz [.int .i64 rm, .sl none 1 (encI (valI vs[i])) []] _ hroom (by simp; rfl) (by simp [encI, valI]) ?_
      simp [hw]
      exact k1 _ (i + 1, roomF rm (valI vs[i])) ⟨by omega, by simp only; omega, by simp only; omega, h4⟩ (by simp only; omega) (sub_iff (by simp))
    · rw [if_neg c1] at h4
      simp [hlt, c1]
      refine k2 _ _ (by simp) ?_
      simp
      exact hK _ (by rw [← h4])
theorem valuesF_each : ∀ (vs : List Val) (room : Int), 0 ≤ valuesF room vs → (∀ v, v ∈ vs → (v.num.length : Int) ≤ room ∧ (v.cat.length : Int) ≤ room) ∧ valuesF room vs ≤ room
  | [], room, h => ⟨by simp, Int.le_refl _⟩
  | v :: r, room, h => by
    unfold valuesF at h ⊢
    by_cases c : 0 ≤ room
    · rw [if_pos c] at h ⊢
      obtain ⟨h1, h2⟩ := valuesF_each r _ h
      have hn : 0 ≤ roomF room (valI v) := by omega
      obtain ⟨h3, h4⟩ := roomF_each (valI v) room (valI_nn v) hn
      refine ⟨fun w hw => ?_, by omega⟩
      rcases List.mem_cons.1 hw with rfl | hw
      · exact ⟨h3 _ (by simp [valI]), h3 _ (by simp [valI])⟩
      · have := h1 w hw; omega
    · rw [if_neg c] at h; omega

def valuesB (vs : List Val) : Bool := decide (vs.length ≤ 50) && decide (0 ≤ valuesF 4000 vs)
theorem valuesB_each {vs : List Val} (h : valuesB vs = true) : vs.length ≤ 50 ∧ ∀ v, v ∈ vs → v.num.length ≤ 4000 ∧ v.cat.length ≤ 4000 := by
  simp only [valuesB, Bool.and_eq_true, decide_eq_true_eq] at h
  refine ⟨h.1, fun v hv => ?_⟩
  have := (valuesF_each vs 4000 h.2).1 v hv
  omega
theorem r_ValuesX (vs : List Val) : PCall Tryd.prog 17 [.sl none 3 (encVs vs) []] (· = .bool (valuesB vs)) := by
  refine pcall_vc c_bkValues (by simp [c_bkValues]) fun x K hK => ?_
  by_cases h : vs.length ≤ 50
  · simp [c_bkValues, h, show (vs.length : Int) ≤ 50 by omega]
    refine oks_callz [] .wide [.int .i64 4000, .sl none 3 (encVs vs) []] (r_values 4000 vs (by omega) (by omega)) (by simp) (by simp; rfl) (by simp) ?_
    rintro _ rfl
    refine oks_vc .wide ?_
    simp
    exact hK _ (by simp [valuesB, h])
  · simp [c_bkValues, h, show ¬ (vs.length : Int) ≤ 50 by omega]
    refine oks_skipc .wide (by simp) (oks_vc .wide ?_)
    simp
    exact hK _ (by simp [valuesB, h])
def rowB (vs : List Val) : Bool := vs.all (fun v => decide (v.num.length ≤ 200)) && valuesB vs
theorem rowB_each {vs : List Val} (h : rowB vs = true) : vs.length ≤ 50 ∧ ∀ v, v ∈ vs → v.num.length ≤ 200 ∧ v.cat.length ≤ 4000 := by
  simp only [rowB, Bool.and_eq_true, List.all_eq_true, decide_eq_true_eq] at h
  obtain ⟨h1, h2⟩ := valuesB_each h.2
  exact ⟨h1, fun v hv => ⟨h.1 v hv, (h2 v hv).2⟩⟩
theorem r_rowX (vs : List Val) : PCall Tryd.prog 7 [.sl none 3 (encVs vs) []] (· = .bool (rowB vs)) := by
  refine PCall.lens fun hlen => ?_
  have hlen : vs.length ≤ 9223372036854775807 := by simpa [PV.lenok] using hlen
  refine pcall_vc c_bkrow (by simp [c_bkrow]) fun x K hK => ?_
  simp [c_bkrow]
  refine vc_loop .wide (fun i : Nat => ⟨19, [(3, .p (.int .i64 (i : Int))), (0, .p (.sl none 3 (encVs vs) []))], []⟩)
    (fun i => i ≤ vs.length ∧ vs.all (fun v => decide (v.num.length ≤ 200)) = (vs.drop i).all (fun v => decide (v.num.length ≤ 200))) (fun i => vs.length - i) 0 ⟨by simp, by simp⟩ (sub_iff (by simp)) ?_
  rintro i ⟨h1, h2⟩ Q k1 k2
  by_cases hi : i = vs.length
  · subst hi
    rw [List.drop_length] at h2
    simp
    refine k2 _ _ (by simp) ?_
    simp
    refine oks_callz [] .wide [.sl none 3 (encVs vs) []] (r_ValuesX vs) (by simp) (by simp; rfl) (by simp) ?_
    rintro _ rfl
    refine oks_vc .wide ?_
    simp
    exact hK _ (by rw [rowB, h2]; simp)
  · have hlt : i < vs.length := by omega
    have hw : IntKind.i64.wrap ((i : Int) + 1) = (i : Int) + 1 := wrap_i64 (by omega)
    rw [List.drop_eq_getElem_cons hlt, List.all_cons] at h2
    by_cases hc : vs[i].num.length ≤ 200
    · simp [hlt, encV, show ¬ (200 : Int) < (vs[i].num.length : Int) by omega, hw]
      refine k1 _ (i + 1) ⟨by omega, ?_⟩ (by omega) (sub_iff (by simp))
      rw [h2]; simp [hc]
    · simp [hlt, encV, show (200 : Int) < (vs[i].num.length : Int) by omega]
      refine k2 _ _ (by simp) ?_
      simp
      exact hK _ (by rw [rowB, h2]; simp [hc])
theorem r_row (vs : List Val) : PCall Tryd.prog 7 [.sl none 3 (encVs vs) []] (fun r => ∃ b, r = .bool b ∧ (b = true → vs.length ≤ 50 ∧ ∀ v, v ∈ vs → v.num.length ≤ 200)) :=
  PCall.mono (r_rowX vs) fun r hr => ⟨_, hr, fun h => ⟨(rowB_each h).1, fun v hv => ((rowB_each h).2 v hv).1⟩⟩
end Go.Dl
