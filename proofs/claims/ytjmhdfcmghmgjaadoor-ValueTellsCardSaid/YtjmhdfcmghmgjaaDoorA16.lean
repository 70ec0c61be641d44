/- Contracts of hornbeamref1: RatParse; hornbeamref12: Num, Valid. Contracts of value.Same and of the reference's Text of a value. Plain laws: a literal's parts as the reference finds them. Cutting a code in two: what is ahead of the cut ends in a state of a family, from each of which what is behind goes on. -/
import Derived.Test.YtjmhdfcmghmgjaaDoorA15
import Derived.Test.YtjmhdfcmghmgjaaDoorA14
import Derived.Test.YtjmhdfcmghmgjaaDoorA8
set_option linter.unusedVariables false
set_option linter.unusedSimpArgs false
set_option maxRecDepth 1000000
namespace Go.Dl
open Go.Proofs

def rqI (t s : List UInt8) (ng : Bool) (y : Nat × Int) : St := ⟨92, [(8, .p (.int .i64 (y.1 : Int))), (7, .p (.int .i64 y.2)), (6, .p (.str [49])), (5, .p (.bool ng)), (4, .p (.str t)), (0, .p (.str s)), (2, .ptr 2 3 0 0)], [(2, ⟨false, 3, .p [[.bool false, .sl (some true) 0 [] [], .sl (some true) 0 [] []]]⟩)]⟩
def NoC (t : List UInt8) : Prop := ∀ x, x ∈ t → x ≠ 47
def RqAt (t : List UInt8) (y : Nat × Int) : Prop := (y.2 = -1 ∧ y.1 ≤ t.length ∧ NoC (t.take y.1)) ∨ ∃ p : Nat, y.2 = (p : Int) ∧ y.1 = p + 1 ∧ p < t.length ∧ t[p]? = some 47 ∧ NoC (t.take p)
theorem limbs_decvalD (s : List UInt8) (h : isNum s = true) : (limbsD (decval s)).length ≤ s.length := by
  have hd : s.all isDig = true := by unfold isNum at h; rw [Bool.and_eq_true] at h; exact h.1
  have h1 := decval_lt s hd
  rcases Nat.eq_zero_or_pos (limbsD (decval s)).length with h0 | h0
  · omega
  · have h2 := limbs_geD (decval s) ((limbsD (decval s)).length - 1) (by omega)
    have h3 : 10 ^ s.length ≤ 10000 ^ s.length := Nat.pow_le_pow_left (by decide) _
    have := (Nat.pow_lt_pow_iff_right (by decide : 1 < 10000)).1 (Nat.lt_of_le_of_lt h2 (Nat.lt_of_lt_of_le h1 h3))
    omega
theorem encD_one : encD (limbsD 1) = [[.int .i64 1]] := by
  rw [show limbsD 1 = [1] by rw [limbs_posD (by decide), show 1 / 10000 = 0 by decide, limbs_zeroD]]
  rfl

set_option maxHeartbeats 4000000 in
theorem r_ratparse (s : List UInt8) (hs : s.length ≤ 100000) : PCall Tryd.prog 46 [.str s] (· = rratparseP s) := by
  refine pcall_vcz c_rratparse (by simp [c_rratparse]) fun x K hK => ?_
  have l1 := cutPre_len 45 s
  have l2 := cutC_len 47 (cutPre 45 s).1
  have lA : (rpA s).length ≤ 100000 := by unfold rpA; omega
  have lB : (rpB s).length ≤ 100000 := by unfold rpB; split; (omega); simp
  have no : rOk s = false → rErr s = 3 → K (.tup [.agg [.bool false, .sl none 0 [] [], .sl none 1 [[.int .i64 1]] []], .int .i64 3]) := fun h h' => hK _ _ rfl (by simp [rratparseP, h, h', errRR, encRR, pD, limbs_zeroD, encD_one])
  have lim : rOk s = false → rErr s = 2 → K (.tup [.agg [.bool false, .sl none 0 [] [], .sl none 1 [[.int .i64 1]] []], .int .i64 2]) := fun h h' => hK _ _ rfl (by simp [rratparseP, h, h', errRR, encRR, pD, limbs_zeroD, encD_one])
  have yes : rOk s = true → K (.tup [rmakeP (rpNeg s) (decval (rpA s)) (decval (rpB s)), .int .i64 0]) := fun h => hK _ _ rfl (by simp [rratparseP, h, rmakeP, pD])
  have pOk : ∀ t : List UInt8, t.length ≤ 1200 → isNum t = true → rparseN t = .tup [pD (decval t), .int .i64 0] := fun t h1 h2 => by simp [rparseN, h2, h1]
  have pLim : ∀ t : List UInt8, ¬ t.length ≤ 1200 → isNum t = true → rparseN t = .tup [pD 0, .int .i64 2] := fun t h1 h2 => by simp [rparseN, h2, h1]
  have pNo : ∀ t : List UInt8, ¬ isNum t = true → rparseN t = .tup [pD 0, .int .i64 3] := fun t h2 => by simp [rparseN, h2]
  rcases s with _ | ⟨b, r⟩
  · have hno : rOk [] = false := by simp [rOk, rpA, cutPre, cutC, isNum]
    simp [c_rratparse]
    refine vc_loop .wide (fun _ : Unit => rqI [] [] false (0, -1)) (fun _ => True) (fun _ => 0) () trivial (sub_iff (by simp [rqI])) ?_
    rintro _ _ Q k1 k2
    simp [rqI]
    refine k2 _ _ (by simp) ?_
    simp
    refine oks_callz [] .wide [.str []] (r_parse [] (by simp)) (by simp) (by simp; rfl) (by simp) ?_
    rintro _ rfl
    refine oks_vc .wide ?_
    rw [pNo _ (by simp [isNum])]
    simp [pD]
    refine oks_callz [] .wide [.str [49]] (r_parse [49] (by simp)) (by simp) (by simp; rfl) (by simp) ?_
    rintro _ rfl
    refine oks_vc .wide ?_
    rw [pOk _ (by decide) (by decide +kernel)]
    simp [pD]
    exact no hno (by simp [rErr, rpA, cutPre, cutC, isNum])
  · by_cases hb : b = 45
    · have ht : r = (cutPre 45 (b :: r)).1 := by simp [cutPre, hb]
      have hneg : rpNeg (b :: r) = true := by simp [rpNeg, cutPre, hb]
      have hb' : (b.toNat : Int) = 45 := by rw [hb]; rfl
      obtain ⟨s, hse⟩ : ∃ s, s = b :: r := ⟨_, rfl⟩
      rw [← hse] at hs l1 l2 lA lB no lim yes ht hneg
      simp [c_rratparse, hb', show (0 : Int) < (r.length : Int) + 1 by omega]
      simp only [← hse]
      refine vc_loop .wide (rqI (r) (s) true) (RqAt (r)) (fun y => (r).length - y.1) (0, -1) (.inl ⟨rfl, by simp, by simp [NoC]⟩) (sub_iff (by simp [rqI])) ?_
      rintro ⟨i, cut⟩ hat Q k1 k2
      have hT : (r).length ≤ 100000 := by rw [ht]; omega
      rcases hat with ⟨h1, h2, h3⟩ | ⟨p, h1, h2, h3, h4, h5⟩
      · simp only at h1 h2 h3
        subst h1
        by_cases hi : i = (r).length
        · subst hi
          rw [List.take_length] at h3
          have hcc : cutC 47 (cutPre 45 s).1 = (r, [], false) := by rw [← ht]; exact cutC_no 47 _ h3
          have eA : rpA s = r := by simp [rpA, hcc]
          have eB : rpB s = [49] := by simp [rpB, hcc]
          have hcA := r_parse (rpA s) lA
          have hcB := r_parse (rpB s) lB
          conv at hcA => arg 3; rw [eA]
          conv at hcB => arg 3; rw [eB]
          simp [rqI]
          refine k2 _ _ (by simp) ?_
          simp
          refine oks_callz [] .wide [.str (r)] hcA (by simp) (by simp; rfl) (by simp) ?_
          rintro _ rfl
          refine oks_vc .wide ?_
          by_cases hA : isNum (rpA s) = true
          · by_cases lA2 : (rpA s).length ≤ 1200
            · rw [pOk _ lA2 hA]
              have nA := limbs_decvalD _ hA
              simp [pD]
              refine oks_callz [] .wide [.str ([49])] hcB (by simp) (by simp; rfl) (by simp) ?_
              rintro _ rfl
              refine oks_vc .wide ?_
              by_cases hB : isNum (rpB s) = true
              · by_cases lB2 : (rpB s).length ≤ 1200
                · have e3 : rErr s = 3 := by simp [rErr, show ¬ 1200 < (rpA s).length by omega, show ¬ 1200 < (rpB s).length by omega]
                  rw [pOk _ lB2 hB]
                  have nB := limbs_decvalD _ hB
                  by_cases hz : decval (rpB s) = 0
                  · simp [pD, hz, limbs_zeroD]
                    exact no (by simp [rOk, hz]) e3
                  · have hpos := limbs_nzD.2 hz
                    have hne : ¬ limbsD (decval (rpB s)) = [] := fun e => by rw [e] at hpos; simp at hpos
                    have hmk := r_make (rpNeg s) (decval (rpA s)) (decval (rpB s)) hz (by omega) (by omega)
                    rw [hneg] at hmk
                    have hr := rt_eq (rpNeg s) (decval (rpA s)) (decval (rpB s)) hz
                    rw [hneg] at hr
                    have htx := r_rattext (true && decide (decval (rpA s) / Nat.gcd (decval (rpA s)) (decval (rpB s)) ≠ 0)) (decval (rpA s) / Nat.gcd (decval (rpA s)) (decval (rpB s))) (decval (rpB s) / Nat.gcd (decval (rpA s)) (decval (rpB s))) (Nat.le_trans (limbs_monoD (Nat.div_le_self _ _)) (by omega)) (Nat.le_trans (limbs_monoD (Nat.div_le_self _ _)) (by omega))
                    rw [hr] at htx
                    have hrv : rOk s = decide (ratT' (lowN true (decval (rpA s)) (decval (rpB s))) = s) := by simp [rOk, hA, hB, hz, hneg, lA2, lB2]
                    simp [pD, hne]
                    refine oks_callz [] .wide [.bool true, pD (decval (rpA s)), pD (decval (rpB s))] hmk (by simp) (by simp; rfl) (by simp [pD]) ?_
                    rintro _ rfl
                    refine oks_vc .wide ?_
                    rw [hneg] at yes
                    obtain ⟨g, hg⟩ : ∃ g, g = Nat.gcd (decval (rpA s)) (decval (rpB s)) := ⟨_, rfl⟩
                    simp only [rmakeP, encRR, ← hg] at htx yes ⊢
                    obtain ⟨bb, hbb⟩ : ∃ bb, bb = (true && decide (decval (rpA s) / g ≠ 0)) := ⟨_, rfl⟩
                    rw [← hbb] at htx yes ⊢
                    simp [pD]
                    refine oks_callz [] .wide [.agg [.bool bb, pD (decval (rpA s) / g), pD (decval (rpB s) / g)]] htx (by simp) (by simp; rfl) (by simp [pD]) ?_
                    rintro _ rfl
                    refine oks_vc .wide ?_
                    by_cases he : ratT' (lowN true (decval (rpA s)) (decval (rpB s))) = s
                    · simp [he]
                      have := yes (by rw [hrv]; simp [he])
                      simpa [pD] using this
                    · simp [he]
                      exact no (by rw [hrv]; simp [he]) e3
                · have e2 : rErr s = 2 := by simp [rErr, hA, hB, show 1200 < (rpB s).length by omega]
                  rw [pLim _ lB2 hB]
                  simp [pD]
                  exact lim (by simp [rOk, lB2]) e2
              · rw [pNo _ hB]
                simp [pD]
                exact no (by simp [rOk, hB]) (by simp [rErr, hB])
            · rw [pLim _ lA2 hA]
              simp [pD]
              refine oks_callz [] .wide [.str ([49])] hcB (by simp) (by simp; rfl) (by simp) ?_
              rintro _ rfl
              refine oks_vc .wide ?_
              by_cases hB : isNum (rpB s) = true
              · have e2 : rErr s = 2 := by simp [rErr, hA, hB, show 1200 < (rpA s).length by omega]
                by_cases lB2 : (rpB s).length ≤ 1200
                · rw [pOk _ lB2 hB]
                  simp [pD]
                  exact lim (by simp [rOk, lA2]) e2
                · rw [pLim _ lB2 hB]
                  simp [pD]
                  exact lim (by simp [rOk, lA2]) e2
              · rw [pNo _ hB]
                simp [pD]
                exact no (by simp [rOk, hB]) (by simp [rErr, hB])
          · have e3 : rErr s = 3 := by simp [rErr, hA]
            rw [pNo _ hA]
            simp [pD]
            refine oks_callz [] .wide [.str ([49])] hcB (by simp) (by simp; rfl) (by simp) ?_
            rintro _ rfl
            refine oks_vc .wide ?_
            by_cases hB : isNum (rpB s) = true
            · by_cases lB2 : (rpB s).length ≤ 1200
              · rw [pOk _ lB2 hB]
                simp [pD]
                exact no (by simp [rOk, hA]) e3
              · rw [pLim _ lB2 hB]
                simp [pD]
                exact no (by simp [rOk, hA]) e3
            · rw [pNo _ hB]
              simp [pD]
              exact no (by simp [rOk, hA]) e3
        · have hlt : i < (r).length := by omega
          have hw : IntKind.i64.wrap ((i : Int) + 1) = (i : Int) + 1 := wrap_i64 (by omega)
          by_cases hc : (r)[i] = 47
          · have hc' : (((r)[i]).toNat : Int) = 47 := by rw [hc]; rfl
            simp [rqI, hlt, hc', hw]
            exact k1 _ (i + 1, (i : Int)) (.inr ⟨i, rfl, rfl, hlt, by rw [List.getElem?_eq_getElem hlt, hc], h3⟩) (by simp only; omega) (sub_iff (by simp [rqI]))
          · have hc' : ¬ (((r)[i]).toNat : Int) = 47 := fun e => hc (UInt8.toNat_inj.1 (by have h47 : (47 : UInt8).toNat = 47 := rfl; omega))
            simp [rqI, hlt, hc', hw]
            refine k1 _ (i + 1, -1) (.inl ⟨rfl, by simp only; omega, ?_⟩) (by simp only; omega) (sub_iff (by simp [rqI]))
            simp only
            intro x hx
            rw [← List.take_append_getElem hlt] at hx
            rcases List.mem_append.1 hx with hx | hx
            · exact h3 x hx
            · simp at hx; rw [hx]; exact hc
      · simp only at h1 h2 h3 h4 h5
        subst h1 h2
        have hsplit : r = (r).take p ++ 47 :: (r).drop (p + 1) := by
          have e1 : (r).drop p = 47 :: (r).drop (p + 1) := by
            rw [List.drop_eq_getElem_cons h3]
            rw [List.getElem?_eq_getElem h3] at h4
            rw [Option.some.inj h4]
          rw [← e1, List.take_append_drop]
        have hcc : cutC 47 (cutPre 45 s).1 = ((r).take p, (r).drop (p + 1), true) := by
          have := cutC_at 47 ((r).drop (p + 1)) ((r).take p) h5
          rw [← hsplit, ht] at this
          rw [this]
          simp only [← ht]
        have eA : rpA s = (r).take p := by simp [rpA, hcc]
        have eB : rpB s = (r).drop (p + 1) := by simp [rpB, hcc]
        have hcA := r_parse (rpA s) lA
        have hcB := r_parse (rpB s) lB
        conv at hcA => arg 3; rw [eA]
        conv at hcB => arg 3; rw [eB]
        have hw : IntKind.i64.wrap ((p : Int) + 1) = (p : Int) + 1 := wrap_i64 (by omega)
        by_cases hpl : p + 1 < (r).length <;>
        · have hpi : ((p : Int) + 1 < ((r).length : Int)) = (p + 1 < (r).length) := by apply propext; omega
          have hp0 : ¬ (p : Int) < 0 := by omega
          simp [rqI, hpi, hpl, hp0]
          refine k2 _ _ (by simp) ?_
          simp
          refine vc_draw .wide rfl ?_
          simp [hw, show p ≤ (r).length by omega, show p + 1 ≤ (r).length by omega, show (0 : Int) ≤ (p : Int) + 1 by omega, show ((p : Int) + 1).toNat = p + 1 by omega]
          have hdt : ((r).drop (p + 1)).take ((r).length - (p + 1)) = (r).drop (p + 1) := List.take_of_length_le (by simp)
          simp only [hdt]
          refine oks_callz [] .wide [.str ((r).take p)] hcA (by simp) (by simp; rfl) (by simp) ?_
          rintro _ rfl
          refine oks_vc .wide ?_
          by_cases hA : isNum (rpA s) = true
          · by_cases lA2 : (rpA s).length ≤ 1200
            · rw [pOk _ lA2 hA]
              have nA := limbs_decvalD _ hA
              simp [pD]
              refine oks_callz [] .wide [.str ((r).drop (p + 1))] hcB (by simp) (by simp; rfl) (by simp) ?_
              rintro _ rfl
              refine oks_vc .wide ?_
              by_cases hB : isNum (rpB s) = true
              · by_cases lB2 : (rpB s).length ≤ 1200
                · have e3 : rErr s = 3 := by simp [rErr, show ¬ 1200 < (rpA s).length by omega, show ¬ 1200 < (rpB s).length by omega]
                  rw [pOk _ lB2 hB]
                  have nB := limbs_decvalD _ hB
                  by_cases hz : decval (rpB s) = 0
                  · simp [pD, hz, limbs_zeroD]
                    exact no (by simp [rOk, hz]) e3
                  · have hpos := limbs_nzD.2 hz
                    have hne : ¬ limbsD (decval (rpB s)) = [] := fun e => by rw [e] at hpos; simp at hpos
                    have hmk := r_make (rpNeg s) (decval (rpA s)) (decval (rpB s)) hz (by omega) (by omega)
                    rw [hneg] at hmk
                    have hr := rt_eq (rpNeg s) (decval (rpA s)) (decval (rpB s)) hz
                    rw [hneg] at hr
                    have htx := r_rattext (true && decide (decval (rpA s) / Nat.gcd (decval (rpA s)) (decval (rpB s)) ≠ 0)) (decval (rpA s) / Nat.gcd (decval (rpA s)) (decval (rpB s))) (decval (rpB s) / Nat.gcd (decval (rpA s)) (decval (rpB s))) (Nat.le_trans (limbs_monoD (Nat.div_le_self _ _)) (by omega)) (Nat.le_trans (limbs_monoD (Nat.div_le_self _ _)) (by omega))
                    rw [hr] at htx
                    have hrv : rOk s = decide (ratT' (lowN true (decval (rpA s)) (decval (rpB s))) = s) := by simp [rOk, hA, hB, hz, hneg, lA2, lB2]
                    simp [pD, hne]
                    refine oks_callz [] .wide [.bool true, pD (decval (rpA s)), pD (decval (rpB s))] hmk (by simp) (by simp; rfl) (by simp [pD]) ?_
                    rintro _ rfl
                    refine oks_vc .wide ?_
                    rw [hneg] at yes
                    obtain ⟨g, hg⟩ : ∃ g, g = Nat.gcd (decval (rpA s)) (decval (rpB s)) := ⟨_, rfl⟩
                    simp only [rmakeP, encRR, ← hg] at htx yes ⊢
                    obtain ⟨bb, hbb⟩ : ∃ bb, bb = (true && decide (decval (rpA s) / g ≠ 0)) := ⟨_, rfl⟩
                    rw [← hbb] at htx yes ⊢
                    simp [pD]
                    refine oks_callz [] .wide [.agg [.bool bb, pD (decval (rpA s) / g), pD (decval (rpB s) / g)]] htx (by simp) (by simp; rfl) (by simp [pD]) ?_
                    rintro _ rfl
                    refine oks_vc .wide ?_
                    by_cases he : ratT' (lowN true (decval (rpA s)) (decval (rpB s))) = s
                    · simp [he]
                      have := yes (by rw [hrv]; simp [he])
                      simpa [pD] using this
                    · simp [he]
                      exact no (by rw [hrv]; simp [he]) e3
                · have e2 : rErr s = 2 := by simp [rErr, hA, hB, show 1200 < (rpB s).length by omega]
                  rw [pLim _ lB2 hB]
                  simp [pD]
                  exact lim (by simp [rOk, lB2]) e2
              · rw [pNo _ hB]
                simp [pD]
                exact no (by simp [rOk, hB]) (by simp [rErr, hB])
            · rw [pLim _ lA2 hA]
              simp [pD]
              refine oks_callz [] .wide [.str ((r).drop (p + 1))] hcB (by simp) (by simp; rfl) (by simp) ?_
              rintro _ rfl
              refine oks_vc .wide ?_
              by_cases hB : isNum (rpB s) = true
              · have e2 : rErr s = 2 := by simp [rErr, hA, hB, show 1200 < (rpA s).length by omega]
                by_cases lB2 : (rpB s).length ≤ 1200
                · rw [pOk _ lB2 hB]
                  simp [pD]
                  exact lim (by simp [rOk, lA2]) e2
                · rw [pLim _ lB2 hB]
                  simp [pD]
                  exact lim (by simp [rOk, lA2]) e2
              · rw [pNo _ hB]
                simp [pD]
                exact no (by simp [rOk, hB]) (by simp [rErr, hB])
          · have e3 : rErr s = 3 := by simp [rErr, hA]
            rw [pNo _ hA]
            simp [pD]
            refine oks_callz [] .wide [.str ((r).drop (p + 1))] hcB (by simp) (by simp; rfl) (by simp) ?_
            rintro _ rfl
            refine oks_vc .wide ?_
            by_cases hB : isNum (rpB s) = true
            · by_cases lB2 : (rpB s).length ≤ 1200
              · rw [pOk _ lB2 hB]
                simp [pD]
                exact no (by simp [rOk, hA]) e3
              · rw [pLim _ lB2 hB]
                simp [pD]
                exact no (by simp [rOk, hA]) e3
            · rw [pNo _ hB]
              simp [pD]
              exact no (by simp [rOk, hA]) e3
    · have ht : b :: r = (cutPre 45 (b :: r)).1 := by simp [cutPre, hb]
      have hneg : rpNeg (b :: r) = false := by simp [rpNeg, cutPre, hb]
      have hb' : ¬ (b.toNat : Int) = 45 := fun e => hb (UInt8.toNat_inj.1 (by have h45 : (45 : UInt8).toNat = 45 := rfl; omega))
      have hb'' : ((b.toNat : Int) == 45) = false := by simpa using hb'
      obtain ⟨s, hse⟩ : ∃ s, s = b :: r := ⟨_, rfl⟩
      rw [← hse] at hs l1 l2 lA lB no lim yes ht hneg
      simp [c_rratparse, hb', hb'', show (0 : Int) < (r.length : Int) + 1 by omega]
      simp only [← hse]
      refine vc_loop .wide (rqI (s) (s) false) (RqAt (s)) (fun y => (s).length - y.1) (0, -1) (.inl ⟨rfl, by simp, by simp [NoC]⟩) (sub_iff (by simp [rqI])) ?_
      rintro ⟨i, cut⟩ hat Q k1 k2
      have hT : (s).length ≤ 100000 := by rw [ht]; omega
      rcases hat with ⟨h1, h2, h3⟩ | ⟨p, h1, h2, h3, h4, h5⟩
      · simp only at h1 h2 h3
        subst h1
        by_cases hi : i = (s).length
        · subst hi
          rw [List.take_length] at h3
          have hcc : cutC 47 (cutPre 45 s).1 = (s, [], false) := by rw [← ht]; exact cutC_no 47 _ h3
          have eA : rpA s = s := by simp [rpA, hcc]
          have eB : rpB s = [49] := by simp [rpB, hcc]
          have hcA := r_parse (rpA s) lA
          have hcB := r_parse (rpB s) lB
          conv at hcA => arg 3; rw [eA]
          conv at hcB => arg 3; rw [eB]
          simp [rqI]
          refine k2 _ _ (by simp) ?_
          simp
          refine oks_callz [] .wide [.str (s)] hcA (by simp) (by simp; rfl) (by simp) ?_
          rintro _ rfl
          refine oks_vc .wide ?_
          by_cases hA : isNum (rpA s) = true
          · by_cases lA2 : (rpA s).length ≤ 1200
            · rw [pOk _ lA2 hA]
              have nA := limbs_decvalD _ hA
              simp [pD]
              refine oks_callz [] .wide [.str ([49])] hcB (by simp) (by simp; rfl) (by simp) ?_
              rintro _ rfl
              refine oks_vc .wide ?_
              by_cases hB : isNum (rpB s) = true
              · by_cases lB2 : (rpB s).length ≤ 1200
                · have e3 : rErr s = 3 := by simp [rErr, show ¬ 1200 < (rpA s).length by omega, show ¬ 1200 < (rpB s).length by omega]
                  rw [pOk _ lB2 hB]
                  have nB := limbs_decvalD _ hB
                  by_cases hz : decval (rpB s) = 0
                  · simp [pD, hz, limbs_zeroD]
                    exact no (by simp [rOk, hz]) e3
                  · have hpos := limbs_nzD.2 hz
                    have hne : ¬ limbsD (decval (rpB s)) = [] := fun e => by rw [e] at hpos; simp at hpos
                    have hmk := r_make (rpNeg s) (decval (rpA s)) (decval (rpB s)) hz (by omega) (by omega)
                    rw [hneg] at hmk
                    have hr := rt_eq (rpNeg s) (decval (rpA s)) (decval (rpB s)) hz
                    rw [hneg] at hr
                    have htx := r_rattext (false && decide (decval (rpA s) / Nat.gcd (decval (rpA s)) (decval (rpB s)) ≠ 0)) (decval (rpA s) / Nat.gcd (decval (rpA s)) (decval (rpB s))) (decval (rpB s) / Nat.gcd (decval (rpA s)) (decval (rpB s))) (Nat.le_trans (limbs_monoD (Nat.div_le_self _ _)) (by omega)) (Nat.le_trans (limbs_monoD (Nat.div_le_self _ _)) (by omega))
                    rw [hr] at htx
                    have hrv : rOk s = decide (ratT' (lowN false (decval (rpA s)) (decval (rpB s))) = s) := by simp [rOk, hA, hB, hz, hneg, lA2, lB2]
                    simp [pD, hne]
                    refine oks_callz [] .wide [.bool false, pD (decval (rpA s)), pD (decval (rpB s))] hmk (by simp) (by simp; rfl) (by simp [pD]) ?_
                    rintro _ rfl
                    refine oks_vc .wide ?_
                    rw [hneg] at yes
                    obtain ⟨g, hg⟩ : ∃ g, g = Nat.gcd (decval (rpA s)) (decval (rpB s)) := ⟨_, rfl⟩
                    simp only [rmakeP, encRR, ← hg] at htx yes ⊢
                    obtain ⟨bb, hbb⟩ : ∃ bb, bb = (false && decide (decval (rpA s) / g ≠ 0)) := ⟨_, rfl⟩
                    rw [← hbb] at htx yes ⊢
                    simp [pD]
                    refine oks_callz [] .wide [.agg [.bool bb, pD (decval (rpA s) / g), pD (decval (rpB s) / g)]] htx (by simp) (by simp; rfl) (by simp [pD]) ?_
                    rintro _ rfl
                    refine oks_vc .wide ?_
                    by_cases he : ratT' (lowN false (decval (rpA s)) (decval (rpB s))) = s
                    · simp [he]
                      have := yes (by rw [hrv]; simp [he])
                      simpa [pD] using this
                    · simp [he]
                      exact no (by rw [hrv]; simp [he]) e3
                · have e2 : rErr s = 2 := by simp [rErr, hA, hB, show 1200 < (rpB s).length by omega]
                  rw [pLim _ lB2 hB]
                  simp [pD]
                  exact lim (by simp [rOk, lB2]) e2
              · rw [pNo _ hB]
                simp [pD]
                exact no (by simp [rOk, hB]) (by simp [rErr, hB])
            · rw [pLim _ lA2 hA]
              simp [pD]
              refine oks_callz [] .wide [.str ([49])] hcB (by simp) (by simp; rfl) (by simp) ?_
              rintro _ rfl
              refine oks_vc .wide ?_
              by_cases hB : isNum (rpB s) = true
              · have e2 : rErr s = 2 := by simp [rErr, hA, hB, show 1200 < (rpA s).length by omega]
                by_cases lB2 : (rpB s).length ≤ 1200
                · rw [pOk _ lB2 hB]
                  simp [pD]
                  exact lim (by simp [rOk, lA2]) e2
                · rw [pLim _ lB2 hB]
                  simp [pD]
                  exact lim (by simp [rOk, lA2]) e2
              · rw [pNo _ hB]
                simp [pD]
                exact no (by simp [rOk, hB]) (by simp [rErr, hB])
          · have e3 : rErr s = 3 := by simp [rErr, hA]
            rw [pNo _ hA]
            simp [pD]
            refine oks_callz [] .wide [.str ([49])] hcB (by simp) (by simp; rfl) (by simp) ?_
            rintro _ rfl
            refine oks_vc .wide ?_
            by_cases hB : isNum (rpB s) = true
            · by_cases lB2 : (rpB s).length ≤ 1200
              · rw [pOk _ lB2 hB]
                simp [pD]
                exact no (by simp [rOk, hA]) e3
              · rw [pLim _ lB2 hB]
                simp [pD]
                exact no (by simp [rOk, hA]) e3
            · rw [pNo _ hB]
              simp [pD]
              exact no (by simp [rOk, hA]) e3
        · have hlt : i < (s).length := by omega
          have hw : IntKind.i64.wrap ((i : Int) + 1) = (i : Int) + 1 := wrap_i64 (by omega)
          by_cases hc : (s)[i] = 47
          · have hc' : (((s)[i]).toNat : Int) = 47 := by rw [hc]; rfl
            simp [rqI, hlt, hc', hw]
            exact k1 _ (i + 1, (i : Int)) (.inr ⟨i, rfl, rfl, hlt, by rw [List.getElem?_eq_getElem hlt, hc], h3⟩) (by simp only; omega) (sub_iff (by simp [rqI]))
          · have hc' : ¬ (((s)[i]).toNat : Int) = 47 := fun e => hc (UInt8.toNat_inj.1 (by have h47 : (47 : UInt8).toNat = 47 := rfl; omega))
            simp [rqI, hlt, hc', hw]
            refine k1 _ (i + 1, -1) (.inl ⟨rfl, by simp only; omega, ?_⟩) (by simp only; omega) (sub_iff (by simp [rqI]))
            simp only
            intro x hx
            rw [← List.take_append_getElem hlt] at hx
            rcases List.mem_append.1 hx with hx | hx
            · exact h3 x hx
            · simp at hx; rw [hx]; exact hc
      · simp only at h1 h2 h3 h4 h5
        subst h1 h2
        have hsplit : s = (s).take p ++ 47 :: (s).drop (p + 1) := by
          have e1 : (s).drop p = 47 :: (s).drop (p + 1) := by
            rw [List.drop_eq_getElem_cons h3]
            rw [List.getElem?_eq_getElem h3] at h4
            rw [Option.some.inj h4]
          rw [← e1, List.take_append_drop]
        have hcc : cutC 47 (cutPre 45 s).1 = ((s).take p, (s).drop (p + 1), true) := by
          have := cutC_at 47 ((s).drop (p + 1)) ((s).take p) h5
          rw [← hsplit, ht] at this
          rw [this]
          simp only [← ht]
        have eA : rpA s = (s).take p := by simp [rpA, hcc]
        have eB : rpB s = (s).drop (p + 1) := by simp [rpB, hcc]
        have hcA := r_parse (rpA s) lA
        have hcB := r_parse (rpB s) lB
        conv at hcA => arg 3; rw [eA]
        conv at hcB => arg 3; rw [eB]
        have hw : IntKind.i64.wrap ((p : Int) + 1) = (p : Int) + 1 := wrap_i64 (by omega)
        by_cases hpl : p + 1 < (s).length <;>
        · have hpi : ((p : Int) + 1 < ((s).length : Int)) = (p + 1 < (s).length) := by apply propext; omega
          have hp0 : ¬ (p : Int) < 0 := by omega
          simp [rqI, hpi, hpl, hp0]
          refine k2 _ _ (by simp) ?_
          simp
          refine vc_draw .wide rfl ?_
          simp [hw, show p ≤ (s).length by omega, show p + 1 ≤ (s).length by omega, show (0 : Int) ≤ (p : Int) + 1 by omega, show ((p : Int) + 1).toNat = p + 1 by omega]
          have hdt : ((s).drop (p + 1)).take ((s).length - (p + 1)) = (s).drop (p + 1) := List.take_of_length_le (by simp)
          simp only [hdt]
          refine oks_callz [] .wide [.str ((s).take p)] hcA (by simp) (by simp; rfl) (by simp) ?_
          rintro _ rfl
          refine oks_vc .wide ?_
          by_cases hA : isNum (rpA s) = true
          · by_cases lA2 : (rpA s).length ≤ 1200
            · rw [pOk _ lA2 hA]
              have nA := limbs_decvalD _ hA
              simp [pD]
              refine oks_callz [] .wide [.str ((s).drop (p + 1))] hcB (by simp) (by simp; rfl) (by simp) ?_
              rintro _ rfl
              refine oks_vc .wide ?_
              by_cases hB : isNum (rpB s) = true
              · by_cases lB2 : (rpB s).length ≤ 1200
                · have e3 : rErr s = 3 := by simp [rErr, show ¬ 1200 < (rpA s).length by omega, show ¬ 1200 < (rpB s).length by omega]
                  rw [pOk _ lB2 hB]
                  have nB := limbs_decvalD _ hB
                  by_cases hz : decval (rpB s) = 0
                  · simp [pD, hz, limbs_zeroD]
                    exact no (by simp [rOk, hz]) e3
                  · have hpos := limbs_nzD.2 hz
                    have hne : ¬ limbsD (decval (rpB s)) = [] := fun e => by rw [e] at hpos; simp at hpos
                    have hmk := r_make (rpNeg s) (decval (rpA s)) (decval (rpB s)) hz (by omega) (by omega)
                    rw [hneg] at hmk
                    have hr := rt_eq (rpNeg s) (decval (rpA s)) (decval (rpB s)) hz
                    rw [hneg] at hr
                    have htx := r_rattext (false && decide (decval (rpA s) / Nat.gcd (decval (rpA s)) (decval (rpB s)) ≠ 0)) (decval (rpA s) / Nat.gcd (decval (rpA s)) (decval (rpB s))) (decval (rpB s) / Nat.gcd (decval (rpA s)) (decval (rpB s))) (Nat.le_trans (limbs_monoD (Nat.div_le_self _ _)) (by omega)) (Nat.le_trans (limbs_monoD (Nat.div_le_self _ _)) (by omega))
                    rw [hr] at htx
                    have hrv : rOk s = decide (ratT' (lowN false (decval (rpA s)) (decval (rpB s))) = s) := by simp [rOk, hA, hB, hz, hneg, lA2, lB2]
                    simp [pD, hne]
                    refine oks_callz [] .wide [.bool false, pD (decval (rpA s)), pD (decval (rpB s))] hmk (by simp) (by simp; rfl) (by simp [pD]) ?_
                    rintro _ rfl
                    refine oks_vc .wide ?_
                    rw [hneg] at yes
                    obtain ⟨g, hg⟩ : ∃ g, g = Nat.gcd (decval (rpA s)) (decval (rpB s)) := ⟨_, rfl⟩
                    simp only [rmakeP, encRR, ← hg] at htx yes ⊢
                    obtain ⟨bb, hbb⟩ : ∃ bb, bb = (false && decide (decval (rpA s) / g ≠ 0)) := ⟨_, rfl⟩
                    rw [← hbb] at htx yes ⊢
                    simp [pD]
                    refine oks_callz [] .wide [.agg [.bool bb, pD (decval (rpA s) / g), pD (decval (rpB s) / g)]] htx (by simp) (by simp; rfl) (by simp [pD]) ?_
                    rintro _ rfl
                    refine oks_vc .wide ?_
                    by_cases he : ratT' (lowN false (decval (rpA s)) (decval (rpB s))) = s
                    · simp [he]
                      have := yes (by rw [hrv]; simp [he])
                      simpa [pD] using this
                    · simp [he]
                      exact no (by rw [hrv]; simp [he]) e3
                · have e2 : rErr s = 2 := by simp [rErr, hA, hB, show 1200 < (rpB s).length by omega]
                  rw [pLim _ lB2 hB]
                  simp [pD]
                  exact lim (by simp [rOk, lB2]) e2
              · rw [pNo _ hB]
                simp [pD]
                exact no (by simp [rOk, hB]) (by simp [rErr, hB])
            · rw [pLim _ lA2 hA]
              simp [pD]
              refine oks_callz [] .wide [.str ((s).drop (p + 1))] hcB (by simp) (by simp; rfl) (by simp) ?_
              rintro _ rfl
              refine oks_vc .wide ?_
              by_cases hB : isNum (rpB s) = true
              · have e2 : rErr s = 2 := by simp [rErr, hA, hB, show 1200 < (rpA s).length by omega]
                by_cases lB2 : (rpB s).length ≤ 1200
                · rw [pOk _ lB2 hB]
                  simp [pD]
                  exact lim (by simp [rOk, lA2]) e2
                · rw [pLim _ lB2 hB]
                  simp [pD]
                  exact lim (by simp [rOk, lA2]) e2
              · rw [pNo _ hB]
                simp [pD]
                exact no (by simp [rOk, hB]) (by simp [rErr, hB])
          · have e3 : rErr s = 3 := by simp [rErr, hA]
            rw [pNo _ hA]
            simp [pD]
            refine oks_callz [] .wide [.str ((s).drop (p + 1))] hcB (by simp) (by simp; rfl) (by simp) ?_
            rintro _ rfl
            refine oks_vc .wide ?_
            by_cases hB : isNum (rpB s) = true
            · by_cases lB2 : (rpB s).length ≤ 1200
              · rw [pOk _ lB2 hB]
                simp [pD]
                exact no (by simp [rOk, hA]) e3
              · rw [pLim _ lB2 hB]
                simp [pD]
                exact no (by simp [rOk, hA]) e3
            · rw [pNo _ hB]
              simp [pD]
              exact no (by simp [rOk, hA]) e3

def validR (v : Val) : Bool := if v.kind = 0 then decide (v.num = []) && decide (v.cat = []) else if v.kind = 1 then numOk v else if v.kind = 2 then decide (v.num = []) && decide (v.cat.length ≤ 60) else false
def rnumR (s : List UInt8) : PV := if rOk s then rmakeP (rpNeg s) (decval (rpA s)) (decval (rpB s)) else errRR
theorem r_num (v : Val) (hs : v.num.length ≤ 100000) : PCall Tryd.prog 19 [.agg (encV v)] (· = .tup [rnumR v.num, .bool (numOk v)]) := by
  obtain ⟨k, s, c⟩ := v
  refine pcall_vcz c_rnum (by simp [c_rnum]) fun x K hK => ?_
  simp [c_rnum, encV]
  refine oks_callz [] .wide [.str s] (r_ratparse s hs) (by simp) (by simp; rfl) (by simp) ?_
  rintro _ rfl
  refine oks_vc .wide ?_
  by_cases hr : rOk s = true
  · by_cases hk : k = 1
    · by_cases hc : c = []
      · simp [rratparseP, hr, rmakeP, pD, hk, hc]
        exact hK _ _ rfl (by simp [rnumR, numOk, hr, hk, hc, rmakeP, pD])
      · simp [rratparseP, hr, rmakeP, pD, hk, hc]
        exact hK _ _ rfl (by simp [rnumR, numOk, hr, hk, hc, rmakeP, pD])
    · simp [rratparseP, hr, rmakeP, pD, hk, show (k == 1) = false by simpa using hk]
      exact hK _ _ rfl (by simp [rnumR, numOk, hr, hk, rmakeP, pD])
  · by_cases hk : k = 1
    · by_cases hc : c = []
      · simp [rratparseP, hr, errRR, encRR, pD, hk, hc]
        exact hK _ _ rfl (by simp [rnumR, numOk, hr, hk, hc, errRR, encRR, pD])
      · simp [rratparseP, hr, errRR, encRR, pD, hk, hc]
        exact hK _ _ rfl (by simp [rnumR, numOk, hr, hk, hc, errRR, encRR, pD])
    · simp [rratparseP, hr, errRR, encRR, pD, hk, show (k == 1) = false by simpa using hk]
      exact hK _ _ rfl (by simp [rnumR, numOk, hr, hk, errRR, encRR, pD])
theorem r_valid (v : Val) (hs : v.num.length ≤ 100000) : PCall Tryd.prog 9 [.agg (encV v)] (· = .bool (validR v)) := by
  obtain ⟨k, s, c⟩ := v
  refine pcall_vcz c_rvalid (by simp [c_rvalid]) fun x K hK => ?_
  by_cases h0 : k = 0
  · by_cases hn : s = []
    · simp [c_rvalid, encV, h0, hn]
      exact hK _ _ rfl (by by_cases hc : c = [] <;> simp [validR, h0, hn, hc])
    · simp [c_rvalid, encV, h0, hn]
      exact hK _ _ rfl (by simp [validR, h0, hn])
  · by_cases h1 : k = 1
    · simp [c_rvalid, encV, h1]
      refine oks_callz [] .wide [.agg (encV ⟨k, s, c⟩)] (r_num ⟨k, s, c⟩ hs) (by simp) (by simp; rfl) (by simp [encV, h1]) ?_
      rintro _ rfl
      refine oks_vc .wide ?_
      by_cases hr : rOk s = true
      · simp [rnumR, hr, rmakeP, pD]
        exact hK _ _ rfl (by simp [validR, h1])
      · simp [rnumR, hr, errRR, encRR, pD]
        exact hK _ _ rfl (by simp [validR, h1])
    · by_cases h2 : k = 2
      · by_cases hn : s = []
        · simp [c_rvalid, encV, h0, h1, h2, hn]
          exact hK _ _ rfl (by simp [validR, h0, h1, hn, h2]; omega)
        · simp [c_rvalid, encV, h0, h1, h2, hn]
          exact hK _ _ rfl (by simp [validR, h0, h1, hn, h2])
      · simp [c_rvalid, encV, h0, h1, h2]
        exact hK _ _ rfl (by simp [validR, h0, h1, h2])
end Go.Dl
set_option linter.unusedVariables false
set_option linter.unusedSimpArgs false
set_option maxRecDepth 1000000
namespace Go.Dl
open Go.Proofs

def sameV (v w : Val) : Bool := decide (v.kind = w.kind) && decide (v.num = w.num) && decide (v.cat = w.cat)
theorem t_vsame (v w : Val) : PCall Tryd.prog 24 [.agg (encV v), .agg (encV w)] (· = .bool (sameV v w)) := by
  obtain ⟨k, n, c⟩ := v
  obtain ⟨k', n', c'⟩ := w
  refine pcall_vcz c_vsame (by simp [c_vsame]) fun x K hK => ?_
  by_cases h1 : k = k'
  · by_cases h2 : n = n'
    · by_cases h3 : c = c'
      · simp [c_vsame, encV, h1, h2, h3]
        exact hK _ _ rfl (by simp [sameV, h1, h2, h3])
      · simp [c_vsame, encV, h1, h2, h3]
        exact hK _ _ rfl (by simp [sameV, h1, h2, h3])
    · simp [c_vsame, encV, h1, h2]
      exact hK _ _ rfl (by simp [sameV, h1, h2])
  · simp [c_vsame, encV, h1]
    exact hK _ _ rfl (by simp [sameV, h1])
theorem validR_eq (v : Val) : validR v = validP v := by
  unfold validR validP
  by_cases h0 : v.kind = 0
  · simp [h0]
  · by_cases h1 : v.kind = 1
    · simp [h1]
    · by_cases h2 : v.kind = 2
      · simp [h2]
      · simp [h0, h1, h2, numOk]
theorem r_vtext (v : Val) (hs : v.num.length ≤ 100000) : PCall Tryd.prog 23 [.agg (encV v)] (· = .str (textP v)) := by
  refine pcall_vcz c_r12text (by simp [c_r12text]) fun x K hK => ?_
  have hvr := r_valid v hs
  rw [validR_eq] at hvr
  simp [c_r12text, encV]
  refine oks_callz [] .wide [.agg (encV v)] hvr (by simp) (by simp; rfl) (by simp [encV]) ?_
  rintro _ rfl
  refine oks_vc .wide ?_
  by_cases hv : validP v = true
  · by_cases h0 : v.kind = 0
    · simp [hv, h0]
      exact hK _ _ rfl (by simp [textP, hv, h0])
    · by_cases h2 : v.kind = 2
      · have hc : v.cat.length ≤ 60 := by
          simp [validP, h2] at hv
          exact hv.2
        simp [hv, h0, h2, show 1 + v.cat.length ≤ 9223372036854775807 by omega, show v.cat.length + 1 ≤ 9223372036854775807 by omega]
        exact hK _ _ rfl (by simp [textP, hv, h0, h2])
      · have h1 : v.kind = 1 := by
          simp [validP, h0, h2, numOk] at hv
          exact hv.1.1
        simp [hv, h1]
        exact hK _ _ rfl (by simp [textP, hv, h1])
  · simp [hv]
    exact hK _ _ rfl (by simp [textP, hv])

/-! the reading of a literal as the reference does it -/
/-- digits, how many behind the point, what is left; whether the point has been -/
def lm : Bool → List UInt8 → List UInt8 × Nat × List UInt8
  | _, [] => ([], 0, [])
  | p, c :: r => if isDig c then (c :: (lm p r).1, (if p then 1 else 0) + (lm p r).2.1, (lm p r).2.2) else if c = 46 ∧ p = false then lm true r else ([], 0, c :: r)
theorem lm_dig : ∀ (p : Bool) (s : List UInt8), (lm p s).1.all isDig = true
  | _, [] => by simp [lm]
  | p, c :: r => by
    unfold lm
    split
    · simp [*, lm_dig p r]
    · split
      · exact lm_dig true r
      · simp
theorem lm_all : ∀ (p : Bool) (d t : List UInt8), d.all isDig = true → lm p (d ++ t) = (d ++ (lm p t).1, (if p then d.length else 0) + (lm p t).2.1, (lm p t).2.2)
  | p, [], t, _ => by simp
  | p, c :: r, t, h => by
    simp only [List.all_cons, Bool.and_eq_true] at h
    have ih := lm_all p r t h.2
    rw [List.cons_append, lm, if_pos h.1, ih]
    cases p
    · simp
    · simp; omega
theorem isE_notDig (c : UInt8) (h : isE c = true) : isDig c = false ∧ c ≠ 46 := by
  simp only [isE, Bool.or_eq_true, beq_iff_eq] at h
  refine ⟨by simp [isDig]; omega, ?_⟩
  rintro rfl
  revert h; decide
/-- where the text ends or the exponent's sign stands, the digits end -/
theorem lm_stop (p : Bool) (t : List UInt8) (h : t = [] ∨ ∃ c r, t = c :: r ∧ isE c = true) : lm p t = ([], 0, t) := by
  rcases h with rfl | ⟨c, r, rfl, h⟩
  · simp [lm]
  · obtain ⟨h1, h2⟩ := isE_notDig c h
    rw [lm, if_neg (by rw [h1]; decide), if_neg (fun h => h2 h.1)]
/-- cut at the point: digits on both sides -/
theorem lm_cut (m t : List UInt8) (h : (cutC 46 m).1.all isDig = true ∧ (cutC 46 m).2.1.all isDig = true) (ht : t = [] ∨ ∃ c r, t = c :: r ∧ isE c = true) :
    lm false (m ++ t) = ((cutC 46 m).1 ++ (cutC 46 m).2.1, (cutC 46 m).2.1.length, t) := by
  obtain ⟨h1, h2⟩ := h
  obtain ⟨_, e1, e2⟩ := indexByte_cut 46 m
  cases hb : (cutC 46 m).2.2 with
  | true =>
    have e := e1 hb
    generalize (cutC 46 m).1 = a at *
    generalize (cutC 46 m).2.1 = b at *
    subst e
    rw [List.append_assoc, lm_all false a _ h1, List.cons_append, lm, if_neg (by decide), if_pos ⟨rfl, rfl⟩, lm_all true b t h2, lm_stop true t ht]
    simp
  | false =>
    obtain ⟨e3, e4⟩ := e2 hb
    rw [e3] at h1
    rw [e3, e4, lm_all false m t h1, lm_stop false t ht]
    simp
def goodM (p : Bool) (m : List UInt8) : Bool := if p then m.all isDig else (cutC 46 m).1.all isDig && (cutC 46 m).2.1.all isDig
theorem lm_bad (t : List UInt8) : ∀ (m : List UInt8) (p : Bool), (∀ c ∈ m, isE c = false) → goodM p m = false → ∃ c r, (lm p (m ++ t)).2.2 = c :: r ∧ isE c = false
  | [], p, _, h => by cases p <;> simp [goodM, cutC] at h
  | c :: r, p, he, h => by
    have her : ∀ c ∈ r, isE c = false := fun x hx => he x (List.mem_cons_of_mem _ hx)
    by_cases hd : isDig c = true
    · have h46 : c ≠ 46 := by rintro rfl; revert hd; decide
      have hg : goodM p r = false := by
        cases p
        · simpa [goodM, cutC, h46, hd] using h
        · simpa [goodM, hd] using h
      rw [List.cons_append, lm, if_pos hd]
      exact lm_bad t r p her hg
    · by_cases h46 : c = 46 ∧ p = false
      · obtain ⟨rfl, rfl⟩ := h46
        have hg : goodM true r = false := by simpa [goodM, cutC] using h
        rw [List.cons_append, lm, if_neg hd, if_pos ⟨rfl, rfl⟩]
        exact lm_bad t r true her hg
      · rw [List.cons_append, lm, if_neg hd, if_neg h46]
        exact ⟨c, r ++ t, rfl, he c (List.mem_cons_self ..)⟩
end Go.Dl
set_option linter.unusedVariables false
set_option linter.unusedSimpArgs false
set_option maxRecDepth 1000000
namespace Go.Dl
open Go.Proofs

theorem isE_before (s : List UInt8) : ∀ c ∈ s.take (cutAt s), isE c = false := by
  intro c hc
  obtain ⟨i, hi, rfl⟩ := List.getElem_of_mem hc
  rw [List.length_take] at hi
  have := List.not_of_lt_findIdx (p := isE) (xs := s) (i := i) (show i < cutAt s by omega)
  rw [List.getElem_take]
  simpa using this
theorem isE_behind (s : List UInt8) : s.drop (cutAt s) = [] ∨ ∃ c, s.drop (cutAt s) = c :: s.drop (cutAt s + 1) ∧ isE c = true ∧ cutAt s < s.length := by
  by_cases h : cutAt s < s.length
  · right
    refine ⟨s[cutAt s], List.drop_eq_getElem_cons h, ?_, h⟩
    exact List.findIdx_getElem (p := isE) (xs := s) (w := h)
  · left
    exact List.drop_of_length_le (by omega)
def mant (s : List UInt8) : List UInt8 := (dsg s).1.take (cutAt (dsg s).1)
def rest (s : List UInt8) : List UInt8 := (dsg s).1.drop (cutAt (dsg s).1)
theorem parts_good (s : List UInt8) : (parts s).all.all isDig = goodM false (mant s) := by
  simp [parts, partsA, goodM, mant]
theorem lm_parts (s : List UInt8) (h : goodM false (mant s) = true) : lm false (dsg s).1 = ((parts s).all, (parts s).behind, rest s) := by
  have e : (dsg s).1 = mant s ++ rest s := (List.take_append_drop _ _).symm
  have := lm_cut (mant s) (rest s) (by simpa [goodM] using h) (by
    rcases isE_behind (dsg s).1 with h | ⟨c, h1, h2, _⟩
    · exact Or.inl h
    · exact Or.inr ⟨c, _, h1, h2⟩)
  rw [← e] at this
  rw [this]
  rfl
theorem lm_parts_no (s : List UInt8) (h : goodM false (mant s) = false) : ∃ c r, (lm false (dsg s).1).2.2 = c :: r ∧ isE c = false := by
  have e : (dsg s).1 = mant s ++ rest s := (List.take_append_drop _ _).symm
  have := lm_bad (rest s) (mant s) false (isE_before (dsg s).1) h
  rwa [← e] at this

/-- an exponent as the reference reckons it -/
def capE (s : List UInt8) : Nat := s.foldl (fun a b => min (a * 10 + (b.toNat - 48)) 1000) 0
theorem capE_app (s : List UInt8) (b : UInt8) : capE (s ++ [b]) = min (capE s * 10 + (b.toNat - 48)) 1000 := by simp [capE]
theorem foldl_cap (s : List UInt8) : ∀ a a' : Nat, a' = min a 1000 → s.foldl (fun a b => min (a * 10 + (b.toNat - 48)) 1000) a' = min (s.foldl (fun a b => a * 10 + (b.toNat - 48)) a) 1000 := by
  induction s with
  | nil => intro a a' h; simpa using h
  | cons c r ih => intro a a' h; rw [List.foldl_cons, List.foldl_cons]; exact ih _ _ (by omega)
theorem capE_eq (s : List UInt8) : capE s = min (decval s) 1000 := foldl_cap s 0 0 (by simp)
theorem decval_zeros (s : List UInt8) : decval (s.dropWhile (· == 48)) = decval s := by
  induction s with
  | nil => rfl
  | cons c r ih =>
    by_cases h : c = 48
    · subst h
      rw [List.dropWhile_cons_of_pos (by decide), ih]
      simp [decval]
    · rw [List.dropWhile_cons_of_neg (by simpa using h)]
theorem foldl_ge (s : List UInt8) : ∀ a : Nat, a * 10 ^ s.length ≤ s.foldl (fun a b => a * 10 + (b.toNat - 48)) a := by
  induction s with
  | nil => intro a; simp
  | cons c r ih =>
    intro a
    rw [List.foldl_cons, List.length_cons, Nat.pow_succ, Nat.mul_comm (10 ^ r.length), ← Nat.mul_assoc]
    exact Nat.le_trans (Nat.mul_le_mul_right _ (by omega)) (ih _)
theorem decval_big (c : UInt8) (r : List UInt8) (hc : isDig c = true) (h : c ≠ 48) (hl : 3 ≤ r.length) : 1000 ≤ decval (c :: r) := by
  have h1 : 1 ≤ c.toNat - 48 := by
    simp only [isDig, Bool.and_eq_true, decide_eq_true_eq] at hc
    have : c.toNat ≠ 48 := fun e => h (UInt8.toNat_inj.1 e)
    omega
  have h2 := foldl_ge r (c.toNat - 48)
  have h3 : 10 ^ 3 ≤ 10 ^ r.length := Nat.pow_le_pow_right (by decide) hl
  have h4 := Nat.mul_le_mul h1 h3
  have e : decval (c :: r) = r.foldl (fun a b => a * 10 + (b.toNat - 48)) (c.toNat - 48) := by simp [decval]
  rw [e]
  omega
/-- the reference's bound and the program's are one -/
theorem dsml_cap (s : List UInt8) (hd : s.all isDig = true) : (dsml s).2 = decide (capE s ≤ 400) ∧ ((dsml s).2 = true → (dsml s).1 = capE s) := by
  rw [capE_eq, ← decval_zeros s]
  have hdt : (s.dropWhile (· == 48)).all isDig = true := by
    rw [List.all_eq_true] at hd ⊢
    exact fun c hc => hd c ((List.dropWhile_sublist _).subset hc)
  unfold dsml
  split
  · rename_i hl
    have hb : 1000 ≤ decval (s.dropWhile (· == 48)) := by
      cases e : s.dropWhile (· == 48) with
      | nil => rw [e] at hl; simp at hl
      | cons c r =>
        rw [e] at hl hdt
        have hb : ¬ (c == 48) = true := by
          have := List.head?_dropWhile_not (fun c : UInt8 => c == 48) s
          rw [e] at this
          simpa using this
        exact decval_big c r (by simp only [List.all_cons, Bool.and_eq_true] at hdt; exact hdt.1) (by simpa using hb) (by simp at hl; omega)
    refine ⟨?_, fun h => by simp at h⟩
    have : ¬ min (decval (s.dropWhile (· == 48))) 1000 ≤ 400 := by omega
    simp [this]
  · refine ⟨?_, fun h => ?_⟩
    · have : (decval (s.dropWhile (· == 48)) ≤ 400) ↔ (min (decval (s.dropWhile (· == 48))) 1000 ≤ 400) := by omega
      simp only [this]
    · have := of_decide_eq_true h
      show decval (s.dropWhile (· == 48)) = min (decval (s.dropWhile (· == 48))) 1000
      omega
end Go.Dl
set_option linter.unusedVariables false
set_option linter.unusedSimpArgs false
namespace Go.Dl

def ltC : Nat → DCode → DCode
  | 0, _ => .skip
  | k + 1, .seq a b => .seq a (ltC k b)
  | _ + 1, c => c
def rtC : Nat → DCode → DCode
  | 0, c => c
  | k + 1, .seq _ b => rtC k b
  | _ + 1, _ => .skip
def hdC : DCode → DCode
  | .seq a _ => a
  | c => c
def tlC : DCode → DCode
  | .seq _ b => b
  | c => c
def thC : DCode → DCode
  | .cond _ a _ => a
  | c => c
def elC : DCode → DCode
  | .cond _ _ b => b
  | c => c
def bdC : DCode → DCode
  | .block _ a => a
  | .loop a => a
  | .scope a => a
  | .range _ _ _ a => a
  | c => c
def nestC : Nat → DCode → Bool
  | 0, _ => true
  | k + 1, .seq _ b => nestC k b
  | _ + 1, _ => false
/-- at the cut: a state of the family -/
def AtC {Y : Type} (inv : Y → Prop) (I : Y → St) (s : St) : Prop := ∃ y, inv y ∧ s.Sub (I y)
theorem AtC.mk {Y : Type} {inv : Y → Prop} {I : Y → St} {s : St} (y : Y) (hy : inv y) (hs : s.Sub (I y)) : AtC inv I s := ⟨y, hy, hs⟩
def KC {Y : Type} (inv : Y → Prop) (I : Y → St) (Q : Exit → St → Prop) (e : Exit) (s : St) : Prop := match e with | .normal => AtC inv I s | e => Q e s
section
variable {Y : Type} {inv : Y → Prop} {I : Y → St} {Q : Exit → St → Prop}
@[simp] theorem KC_normal (s : St) : KC inv I Q .normal s = AtC inv I s := propext Iff.rfl
@[simp] theorem KC_exit (s : St) (i : Nat) : KC inv I Q (.exit i) s = Q (.exit i) s := propext Iff.rfl
@[simp] theorem KC_ret (s : St) : KC inv I Q .ret s = Q .ret s := propext Iff.rfl

theorem vc_cut {F : Fence} {P : Program} {nt : Nat} {x : Fx} (hF : Free F) (inv : Y → Prop) (I : Y → St) : ∀ (k : Nat) (c : DCode) (st : St), nestC k c = true → (∀ y, inv y → Ok F P nt x (rtC k c) Q (I y)) →
    VC F P nt x (ltC k c) (KC inv I Q) st → Ok F P nt x c Q st
  | 0, c, st, _, ht, h => by
    have h' : ∃ y, inv y ∧ st.Sub (I y) := h
    obtain ⟨y, hy, hs⟩ := h'
    exact ok_sub hs (ht y hy)
  | k + 1, .seq a b, st, hn, ht, h => by
    have h' : VC F P nt x a (Kseq (VC F P nt x (ltC k b) (KC inv I Q)) (KC inv I Q)) st := h
    refine ok_seq (ok_mono (vc_ok hF a h') fun e s hq => ?_)
    cases e with
    | normal => exact vc_cut hF inv I k b s hn ht hq
    | exit i => exact hq
    | ret => exact hq
    | goto => exact hq
    | panic => exact hq
    | outgrown => exact hq
  | k + 1, .skip, st, hn, _, _ => by cases hn
  | k + 1, .reg _, st, hn, _, _ => by cases hn
  | k + 1, .draw _, st, hn, _, _ => by cases hn
  | k + 1, .cond .., st, hn, _, _ => by cases hn
  | k + 1, .block .., st, hn, _, _ => by cases hn
  | k + 1, .loop .., st, hn, _, _ => by cases hn
  | k + 1, .range .., st, hn, _, _ => by cases hn
  | k + 1, .exit _, st, hn, _, _ => by cases hn
  | k + 1, .scope _, st, hn, _, _ => by cases hn
  | k + 1, .label, st, hn, _, _ => by cases hn
  | k + 1, .ret, st, hn, _, _ => by cases hn
  | k + 1, .bad, st, hn, _, _ => by cases hn
end
theorem pcall_okz {P : Program} [DGood P] {f : FuncId} {args : List PV} {R : PV → Prop} (D : { d : DFn // compF P f = some d }) (hl : args.length ≤ D.1.nt)
    (h : ∀ (x : Fx) (K : PV → Prop), (∀ r r', R r' → r.rsz r' → K r) → Ok Fence.wide P D.1.nt x D.1.code (retQ D.1.res K) ⟨D.1.nt, argsT 0 args, []⟩) : PCall P f args R :=
  PCall.rsz_res (pcall_of D.2 hl fun x => h x (fun r => ∃ r', r.rsz r' ∧ R r') fun r r' h1 h2 => ⟨r', h2, h1⟩)
section
variable {F : Fence} {P : Program} {nt : Nat} {x : Fx} {Q : Exit → St → Prop} {st : St} {Y : Type}
/-- a first part that ends in a state of a family, and what is behind it -/
theorem ok_mid {a b : DCode} (inv : Y → Prop) (I : Y → St) (hb : ∀ y, inv y → Ok F P nt x b Q (I y)) (ha : Ok F P nt x a (KC inv I Q) st) : Ok F P nt x (.seq a b) Q st := by
  refine ok_seq (ok_mono ha fun e s hq => ?_)
  cases e with
  | normal => obtain ⟨y, hy, hs⟩ := hq; exact ok_sub hs (hb y hy)
  | exit i => exact hq
  | ret => exact hq
  | goto => exact hq
  | panic => exact hq
  | outgrown => exact hq
def KSeq (F : Fence) (P : Program) (nt : Nat) (x : Fx) (b : DCode) (Q : Exit → St → Prop) (e : Exit) (s : St) : Prop := match e with | .normal => Ok F P nt x b Q s | e => Q e s
@[simp] theorem KSeq_normal (b : DCode) (s : St) : KSeq F P nt x b Q .normal s = Ok F P nt x b Q s := propext Iff.rfl
@[simp] theorem KSeq_exit (b : DCode) (s : St) (i : Nat) : KSeq F P nt x b Q (.exit i) s = Q (.exit i) s := propext Iff.rfl
@[simp] theorem KSeq_ret (b : DCode) (s : St) : KSeq F P nt x b Q .ret s = Q .ret s := propext Iff.rfl
/-- a first part that is reckoned, and what is behind it -/
theorem ok_fst (hF : Free F) {a b : DCode} (ha : VC F P nt x a (KSeq F P nt x b Q) st) : Ok F P nt x (.seq a b) Q st := by
  refine ok_seq (ok_mono (vc_ok hF a ha) fun e s hq => ?_)
  cases e <;> exact hq
theorem ok_blk {i : Nat} {d : DCode} (h : Ok F P nt x d (Kblk i Q) st) : Ok F P nt x (.block i d) Q st := by
  refine ok_block (ok_mono h fun e s hq => ?_)
  cases e <;> exact hq
end
end Go.Dl
