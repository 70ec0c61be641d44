/- Contracts of hornbeamref1: Parse. -/
import Derived.Test.YtjmhdfcmghmgjaaDoorRfE
set_option linter.unusedVariables false
set_option linter.unusedSimpArgs false
set_option maxRecDepth 1000000
namespace Go.Dl
open Go.Proofs

theorem decval_append (p : List UInt8) : ∀ q : List UInt8, decval (p ++ q) = decval p * 10 ^ q.length + decval q := by
  intro q
  obtain ⟨n, hn⟩ : ∃ n, q.length = n := ⟨_, rfl⟩
  induction n generalizing q with
  | zero => have := List.eq_nil_of_length_eq_zero hn; subst this; simp [decval]
  | succ n ih =>
    have hne : q ≠ [] := by rintro rfl; simp at hn
    rw [← List.dropLast_concat_getLast hne] at hn ⊢
    generalize q.dropLast = t at *
    generalize q.getLast hne = c at *
    have h := ih t (by simpa using hn)
    rw [← List.append_assoc, decval_app, h, decval_app, List.length_append, List.length_cons, List.length_nil, Nat.zero_add, Nat.pow_succ, Nat.add_mul, Nat.mul_assoc]
    omega

def rparseN (s : List UInt8) : PV := if isNum s then .tup [pD (decval s), .int .i64 0] else .tup [pD 0, .int .i64 3]
def rpObj : List Nat → DV × List (Nat × Ob)
  | [] => (.p (.sl (some true) 0 [] []), [])
  | d :: r => (.own 65 1 0 (d :: r).length (d :: r).length, [(65, ⟨false, 1, .p (encD (d :: r))⟩)])
def rpI (s : List UInt8) (y : Int × List Nat) : St := ⟨68, [(6, .p (.int .i64 y.1)), (4, (rpObj y.2).1), (0, .p (.str s))], (rpObj y.2).2⟩
def rpJ (s : List UInt8) (e : Int) (a : List Nat) (z : Nat × Nat) : St := ⟨68, [(8, .p (.int .i64 (z.1 : Int))), (7, .p (.int .i64 (U z.2))), (6, .p (.int .i64 e)), (4, (rpObj a).1), (0, .p (.str s))], (rpObj a).2⟩

theorem all_take_succ (s : List UInt8) (i : Nat) (h : i < s.length) : (s.take (i + 1)).all isDig = ((s.take i).all isDig && isDig s[i]) := by
  rw [← List.take_append_getElem h, List.all_append]; simp

set_option maxHeartbeats 2000000 in
theorem r_parse (s : List UInt8) (hs : s.length ≤ 1000) : PCall Tryd.prog 75 [.str s] (· = rparseN s) := by
  refine pcall_vcz c_rrparse (by simp [c_rrparse]) fun x K hK => ?_
  have no : isNum s = false → K (.tup [.sl none 0 [] [], .int .i64 3]) := fun h => hK _ _ rfl (by simp [rparseN, h, pD, limbs_zeroD])
  cases s with
  | nil =>
    simp [c_rrparse]
    exact no rfl
  | cons b r =>
    have hu : (b.toNat : Int) = 48 ↔ b.toNat = 48 := by omega
    by_cases hbad : b.toNat = 48 ∧ r ≠ []
    · obtain ⟨h1, h2⟩ := hbad
      have hrl : 0 < r.length := List.length_pos_iff.2 h2
      have : isNum (b :: r) = false := by simp [isNum, h1, h2]
      simp [c_rrparse, h1, h2, hrl, show (1 : Int) < (r.length : Int) + 1 by omega]
      exact no this
    · have hok : (b :: r).all isDig = true → isNum (b :: r) = true := by
        intro h
        unfold isNum
        rw [h]
        by_cases h1 : b.toNat = 48
        · have h2 : r = [] := by
            rcases Classical.em (r = []) with h | h
            · exact h
            · exact (hbad ⟨h1, h⟩).elim
          have hb48 : b = 48 := UInt8.toNat_inj.1 (by rw [h1]; rfl)
          subst hb48 h2
          rfl
        · simp [h1]
      obtain ⟨s, hse⟩ : ∃ s, s = b :: r := ⟨_, rfl⟩
      rw [← hse] at hs hK no hok
      have hnd : ∀ i (h : i < s.length), isDig s[i] = false → isNum s = false := by
        intro i h hd
        have : s.all isDig = false := by
          rw [List.all_eq_false]
          exact ⟨_, List.getElem_mem h, by rw [hd]; simp⟩
        unfold isNum
        rw [this]; rfl
      have hslen : s.length = r.length + 1 := by rw [hse]; simp
      by_cases h1 : b.toNat = 48
      · have h2 : r = [] := by
          rcases Classical.em (r = []) with h | h
          · exact h
          · exact (hbad ⟨h1, h⟩).elim
        subst h2
        simp [c_rrparse, h1]
        simp only [← hse]
        refine vc_loop .wide (fun i : Nat => ⟨68, [(5, .p (.int .i64 (i : Int))), (4, .p (.sl (some true) 0 [] [])), (0, .p (.str s))], []⟩) (fun i => i ≤ s.length ∧ (s.take i).all isDig = true) (fun i => s.length - i) 0 ⟨by simp, by simp⟩ (sub_iff (by simp)) ?_
        rintro i ⟨i1, i2⟩ Q k1 k2
        by_cases hi : i = s.length
        · subst hi
          rw [List.take_length] at i2
          have hnum := hok i2
          have yes : K (.tup [pD (decval s), .int .i64 0]) := hK _ _ rfl (by simp [rparseN, hnum, pD])
          simp
          refine k2 _ _ (by simp) ?_
          simp [show ¬ (1200 : Int) < (s.length : Int) by omega]
          refine vc_loop .wide (rpI s) (fun y => y.1 = (s.length : Int) - 4 * (y.2.length : Int) ∧ OkLD y.2 ∧ valD y.2 = decval (s.drop y.1.toNat) ∧ y.2.length ≤ s.length) (fun y => s.length - y.2.length) ((s.length : Int), [])
            ⟨by simp, by simp [OkLD], by simp [valD, decval], by simp⟩ (sub_iff (by simp [rpI, rpObj])) ?_
          rintro ⟨e, a⟩ ⟨a1, a2, a3, a4⟩ Q1 m1 m2
          simp only at a1 a2 a3 a4
          by_cases he : 0 < e
          · obtain ⟨n, hn⟩ : ∃ n : Nat, e = (n : Int) := ⟨e.toNat, by omega⟩
            subst hn
            have hnl : n ≤ s.length := by omega
            rw [Int.toNat_natCast] at a3
            obtain ⟨lo, hlo⟩ : ∃ lo : Nat, lo = n - 4 := ⟨_, rfl⟩
            have hw4 : IntKind.i64.wrap ((n : Int) - 4) = (n : Int) - 4 := wrap_i64 (by omega)
            have hmax : max ((n : Int) - 4) 0 = (lo : Int) := by omega
            have hdp : decval (s.drop lo) = decval ((s.drop lo).take (n - lo)) * 10000 ^ a.length + valD a := by
              rw [a3]
              conv => lhs; rw [← List.take_append_drop (n - lo) (s.drop lo), decval_append, List.drop_drop, show lo + (n - lo) = n by omega]
              rw [show (s.drop n).length = 4 * a.length by simp; omega, show (10000 : Nat) = 10 ^ 4 from rfl, ← Nat.pow_mul]
            have hdigs : ((s.drop lo).take (n - lo)).all isDig = true := by
              rw [List.all_eq_true] at i2 ⊢
              exact fun c hc => i2 c (List.mem_of_mem_drop (List.mem_of_mem_take hc))
            have hvb : decval ((s.drop lo).take (n - lo)) < 10000 := by
              have h8 := decval_lt _ hdigs
              have h9 : ((s.drop lo).take (n - lo)).length ≤ 4 := by simp; omega
              have h10 := Nat.pow_le_pow_right (show 0 < 10 by decide) h9
              omega
            have hfin : ∀ v, v = decval ((s.drop lo).take (n - lo)) → OkLD (a ++ [v]) ∧ valD (a ++ [v]) = decval (s.drop lo) := by
              intro v hv
              constructor
              · intro d hd
                rcases List.mem_append.1 hd with hd | hd
                · exact a2 d hd
                · simp at hd; omega
              · rw [val_appendD, hdp, ← hv]; simp [valD]; rw [Nat.mul_comm]; omega
            simp [rpI, show 0 < n by omega, hw4, hmax]
            refine vc_loop .wide (rpJ s (n : Int) a) (fun z => lo ≤ z.1 ∧ z.1 ≤ n ∧ z.2 = decval ((s.drop lo).take (z.1 - lo))) (fun z => n - z.1) (lo, 0) ⟨by simp, by simp only; omega, by simp [decval]⟩ (sub_iff (by cases a <;> simp [rpJ, rpObj])) ?_
            rintro ⟨k, v⟩ ⟨b1, b2, b3⟩ Q2 l1 l2
            simp only at b1 b2 b3
            by_cases hk : k = n
            · subst hk
              obtain ⟨f1, f2⟩ := hfin v b3
              have hmeas : s.length - (a ++ [v]).length < s.length - a.length := by simp; omega
              cases a with
              | nil =>
                simp [rpJ, rpObj]
                refine l2 _ _ (by simp) ?_
                simp [maxLen_eq, hw4]
                refine m1 _ ((k : Int) - 4, [v]) ⟨by simp at a1 ⊢; omega, f1, by simp only; rw [show ((k : Int) - 4).toNat = lo by omega]; exact f2, by simp; omega⟩ hmeas (sub_iff (by simp [rpI, rpObj, encD]))
              | cons d q =>
                have c1 : (q.length + 1 + 1) * 8 ≤ 140737488355328 := by simp at a4; omega
                have c2 : q.length + 1 + 1 ≤ 9223372036854775807 := by simp at a4; omega
                simp [rpJ, rpObj]
                refine l2 _ _ (by simp) ?_
                simp [maxLen_eq, hw4, c1, c2]
                refine m1 _ ((k : Int) - 4, d :: q ++ [v]) ⟨by simp at a1 ⊢; omega, f1, by simp only; rw [show ((k : Int) - 4).toNat = lo by omega]; exact f2, by simp at a1 ⊢; omega⟩ hmeas (sub_iff (by simp [rpI, rpObj, encD]; exact List.take_of_length_le (by simp)))
            · have hkn : k < n := by omega
              have hks : k < s.length := by omega
              have hkd : isDig s[k] = true := by rw [List.all_eq_true] at i2; exact i2 _ (List.getElem_mem hks)
              simp only [isDig, Bool.and_eq_true, decide_eq_true_eq] at hkd
              have hdg : IntKind.u8.wrap ((s[k].toNat : Int) - 48) = U (s[k].toNat - 48) := by rw [wrap_u8']; unfold U; omega
              have hdg' : IntKind.i64.wrap (U (s[k].toNat - 48)) = U (s[k].toNat - 48) := wrap_i64 (by unfold U; omega)
              have htk : (s.drop lo).take (k + 1 - lo) = (s.drop lo).take (k - lo) ++ [s[k]] := by
                rw [show k + 1 - lo = (k - lo) + 1 by omega, List.take_add_one, List.getElem?_drop, show lo + (k - lo) = k by omega, List.getElem?_eq_getElem hks]; rfl
              have hvs : v < 10000 := by
                have h8 : ((s.drop lo).take (k - lo)).all isDig = true := by
                  rw [List.all_eq_true] at i2 ⊢
                  exact fun c hc => i2 c (List.mem_of_mem_drop (List.mem_of_mem_take hc))
                have h9 := decval_lt _ h8
                have h10 : ((s.drop lo).take (k - lo)).length ≤ 4 := by simp; omega
                have h11 := Nat.pow_le_pow_right (show 0 < 10 by decide) h10
                omega
              have e1 : evBin .mul (.int .i64 (U v)) (.int .i64 10) = some (.int .i64 (U (v * 10))) := evi_mul v 10 (by omega)
              have e2 := evi_add (v * 10) (s[k].toNat - 48) (by omega)
              have hwk : IntKind.i64.wrap ((k : Int) + 1) = (k : Int) + 1 := wrap_i64 (by omega)
              simp [rpJ, hkn, hks, hdg, hdg', e1, e2, hwk]
              refine l1 _ (k + 1, v * 10 + (s[k].toNat - 48)) ⟨by omega, by omega, ?_⟩ (by simp only; omega) (sub_iff (by cases a <;> simp [rpJ, rpObj]))
              simp only
              rw [htk, decval_app, ← b3]
          · have hz : e.toNat = 0 := by omega
            rw [hz, List.drop_zero] at a3
            simp [rpI, he]
            refine m2 _ _ (by simp) ?_
            cases a with
            | nil =>
              simp at a1
              omega
            | cons d q =>
              simp [rpObj]
              refine oks_callz [65] .wide [.sl none 1 (encD (d :: q)) []] (r_trim none (d :: q) a2 (by omega)) (by simp) (by simp; rfl) (by simp; exact List.take_of_length_le (by simp)) ?_
              rintro _ rfl
              refine oks_vc .wide ?_
              rw [a3]
              simp
              exact yes
        · have hlt : i < s.length := by omega
          have hwi : IntKind.i64.wrap ((i : Int) + 1) = (i : Int) + 1 := wrap_i64 (by omega)
          cases hd : isDig s[i] with
          | true =>
            have hd' := hd
            simp only [isDig, Bool.and_eq_true, decide_eq_true_eq] at hd'
            simp [hlt, hwi, show ¬ ((s[i].toNat : Int) < 48) by omega, show ¬ ((57 : Int) < s[i].toNat) by omega, show (48 : Int) ≤ s[i].toNat by omega, show ((s[i].toNat : Int) ≤ 57) by omega]
            refine k1 _ (i + 1) ⟨by omega, ?_⟩ (by omega) (sub_iff (by simp))
            rw [all_take_succ s i hlt, i2, hd]; rfl
          | false =>
            have hno := no (hnd i hlt hd)
            have hd' := hd
            simp only [isDig, Bool.and_eq_false_iff, decide_eq_false_iff_not, Nat.not_le] at hd'
            by_cases h48 : s[i].toNat < 48
            · simp [hlt, hwi, show ((s[i].toNat : Int) < 48) by omega]
              refine k2 _ _ (by simp) ?_
              simp
              exact hno
            · simp [hlt, hwi, show ¬ ((s[i].toNat : Int) < 48) by omega, show (48 : Int) ≤ s[i].toNat by omega, show ((57 : Int) < s[i].toNat) by omega]
              refine k2 _ _ (by simp) ?_
              simp
              exact hno
      · simp [c_rrparse, h1, show ¬ (b.toNat : Int) = 48 by omega]
        simp only [← hse]
        refine vc_loop .wide (fun i : Nat => ⟨68, [(5, .p (.int .i64 (i : Int))), (4, .p (.sl (some true) 0 [] [])), (0, .p (.str s))], []⟩) (fun i => i ≤ s.length ∧ (s.take i).all isDig = true) (fun i => s.length - i) 0 ⟨by simp, by simp⟩ (sub_iff (by simp)) ?_
        rintro i ⟨i1, i2⟩ Q k1 k2
        by_cases hi : i = s.length
        · subst hi
          rw [List.take_length] at i2
          have hnum := hok i2
          have yes : K (.tup [pD (decval s), .int .i64 0]) := hK _ _ rfl (by simp [rparseN, hnum, pD])
          simp
          refine k2 _ _ (by simp) ?_
          simp [show ¬ (1200 : Int) < (s.length : Int) by omega]
          refine vc_loop .wide (rpI s) (fun y => y.1 = (s.length : Int) - 4 * (y.2.length : Int) ∧ OkLD y.2 ∧ valD y.2 = decval (s.drop y.1.toNat) ∧ y.2.length ≤ s.length) (fun y => s.length - y.2.length) ((s.length : Int), [])
            ⟨by simp, by simp [OkLD], by simp [valD, decval], by simp⟩ (sub_iff (by simp [rpI, rpObj])) ?_
          rintro ⟨e, a⟩ ⟨a1, a2, a3, a4⟩ Q1 m1 m2
          simp only at a1 a2 a3 a4
          by_cases he : 0 < e
          · obtain ⟨n, hn⟩ : ∃ n : Nat, e = (n : Int) := ⟨e.toNat, by omega⟩
            subst hn
            have hnl : n ≤ s.length := by omega
            rw [Int.toNat_natCast] at a3
            obtain ⟨lo, hlo⟩ : ∃ lo : Nat, lo = n - 4 := ⟨_, rfl⟩
            have hw4 : IntKind.i64.wrap ((n : Int) - 4) = (n : Int) - 4 := wrap_i64 (by omega)
            have hmax : max ((n : Int) - 4) 0 = (lo : Int) := by omega
            have hdp : decval (s.drop lo) = decval ((s.drop lo).take (n - lo)) * 10000 ^ a.length + valD a := by
              rw [a3]
              conv => lhs; rw [← List.take_append_drop (n - lo) (s.drop lo), decval_append, List.drop_drop, show lo + (n - lo) = n by omega]
              rw [show (s.drop n).length = 4 * a.length by simp; omega, show (10000 : Nat) = 10 ^ 4 from rfl, ← Nat.pow_mul]
            have hdigs : ((s.drop lo).take (n - lo)).all isDig = true := by
              rw [List.all_eq_true] at i2 ⊢
              exact fun c hc => i2 c (List.mem_of_mem_drop (List.mem_of_mem_take hc))
            have hvb : decval ((s.drop lo).take (n - lo)) < 10000 := by
              have h8 := decval_lt _ hdigs
              have h9 : ((s.drop lo).take (n - lo)).length ≤ 4 := by simp; omega
              have h10 := Nat.pow_le_pow_right (show 0 < 10 by decide) h9
              omega
            have hfin : ∀ v, v = decval ((s.drop lo).take (n - lo)) → OkLD (a ++ [v]) ∧ valD (a ++ [v]) = decval (s.drop lo) := by
              intro v hv
              constructor
              · intro d hd
                rcases List.mem_append.1 hd with hd | hd
                · exact a2 d hd
                · simp at hd; omega
              · rw [val_appendD, hdp, ← hv]; simp [valD]; rw [Nat.mul_comm]; omega
            simp [rpI, show 0 < n by omega, hw4, hmax]
            refine vc_loop .wide (rpJ s (n : Int) a) (fun z => lo ≤ z.1 ∧ z.1 ≤ n ∧ z.2 = decval ((s.drop lo).take (z.1 - lo))) (fun z => n - z.1) (lo, 0) ⟨by simp, by simp only; omega, by simp [decval]⟩ (sub_iff (by cases a <;> simp [rpJ, rpObj])) ?_
            rintro ⟨k, v⟩ ⟨b1, b2, b3⟩ Q2 l1 l2
            simp only at b1 b2 b3
            by_cases hk : k = n
            · subst hk
              obtain ⟨f1, f2⟩ := hfin v b3
              have hmeas : s.length - (a ++ [v]).length < s.length - a.length := by simp; omega
              cases a with
              | nil =>
                simp [rpJ, rpObj]
                refine l2 _ _ (by simp) ?_
                simp [maxLen_eq, hw4]
                refine m1 _ ((k : Int) - 4, [v]) ⟨by simp at a1 ⊢; omega, f1, by simp only; rw [show ((k : Int) - 4).toNat = lo by omega]; exact f2, by simp; omega⟩ hmeas (sub_iff (by simp [rpI, rpObj, encD]))
              | cons d q =>
                have c1 : (q.length + 1 + 1) * 8 ≤ 140737488355328 := by simp at a4; omega
                have c2 : q.length + 1 + 1 ≤ 9223372036854775807 := by simp at a4; omega
                simp [rpJ, rpObj]
                refine l2 _ _ (by simp) ?_
                simp [maxLen_eq, hw4, c1, c2]
                refine m1 _ ((k : Int) - 4, d :: q ++ [v]) ⟨by simp at a1 ⊢; omega, f1, by simp only; rw [show ((k : Int) - 4).toNat = lo by omega]; exact f2, by simp at a1 ⊢; omega⟩ hmeas (sub_iff (by simp [rpI, rpObj, encD]; exact List.take_of_length_le (by simp)))
            · have hkn : k < n := by omega
              have hks : k < s.length := by omega
              have hkd : isDig s[k] = true := by rw [List.all_eq_true] at i2; exact i2 _ (List.getElem_mem hks)
              simp only [isDig, Bool.and_eq_true, decide_eq_true_eq] at hkd
              have hdg : IntKind.u8.wrap ((s[k].toNat : Int) - 48) = U (s[k].toNat - 48) := by rw [wrap_u8']; unfold U; omega
              have hdg' : IntKind.i64.wrap (U (s[k].toNat - 48)) = U (s[k].toNat - 48) := wrap_i64 (by unfold U; omega)
              have htk : (s.drop lo).take (k + 1 - lo) = (s.drop lo).take (k - lo) ++ [s[k]] := by
                rw [show k + 1 - lo = (k - lo) + 1 by omega, List.take_add_one, List.getElem?_drop, show lo + (k - lo) = k by omega, List.getElem?_eq_getElem hks]; rfl
              have hvs : v < 10000 := by
                have h8 : ((s.drop lo).take (k - lo)).all isDig = true := by
                  rw [List.all_eq_true] at i2 ⊢
                  exact fun c hc => i2 c (List.mem_of_mem_drop (List.mem_of_mem_take hc))
                have h9 := decval_lt _ h8
                have h10 : ((s.drop lo).take (k - lo)).length ≤ 4 := by simp; omega
                have h11 := Nat.pow_le_pow_right (show 0 < 10 by decide) h10
                omega
              have e1 : evBin .mul (.int .i64 (U v)) (.int .i64 10) = some (.int .i64 (U (v * 10))) := evi_mul v 10 (by omega)
              have e2 := evi_add (v * 10) (s[k].toNat - 48) (by omega)
              have hwk : IntKind.i64.wrap ((k : Int) + 1) = (k : Int) + 1 := wrap_i64 (by omega)
              simp [rpJ, hkn, hks, hdg, hdg', e1, e2, hwk]
              refine l1 _ (k + 1, v * 10 + (s[k].toNat - 48)) ⟨by omega, by omega, ?_⟩ (by simp only; omega) (sub_iff (by cases a <;> simp [rpJ, rpObj]))
              simp only
              rw [htk, decval_app, ← b3]
          · have hz : e.toNat = 0 := by omega
            rw [hz, List.drop_zero] at a3
            simp [rpI, he]
            refine m2 _ _ (by simp) ?_
            cases a with
            | nil =>
              simp at a1
              omega
            | cons d q =>
              simp [rpObj]
              refine oks_callz [65] .wide [.sl none 1 (encD (d :: q)) []] (r_trim none (d :: q) a2 (by omega)) (by simp) (by simp; rfl) (by simp; exact List.take_of_length_le (by simp)) ?_
              rintro _ rfl
              refine oks_vc .wide ?_
              rw [a3]
              simp
              exact yes
        · have hlt : i < s.length := by omega
          have hwi : IntKind.i64.wrap ((i : Int) + 1) = (i : Int) + 1 := wrap_i64 (by omega)
          cases hd : isDig s[i] with
          | true =>
            have hd' := hd
            simp only [isDig, Bool.and_eq_true, decide_eq_true_eq] at hd'
            simp [hlt, hwi, show ¬ ((s[i].toNat : Int) < 48) by omega, show ¬ ((57 : Int) < s[i].toNat) by omega, show (48 : Int) ≤ s[i].toNat by omega, show ((s[i].toNat : Int) ≤ 57) by omega]
            refine k1 _ (i + 1) ⟨by omega, ?_⟩ (by omega) (sub_iff (by simp))
            rw [all_take_succ s i hlt, i2, hd]; rfl
          | false =>
            have hno := no (hnd i hlt hd)
            have hd' := hd
            simp only [isDig, Bool.and_eq_false_iff, decide_eq_false_iff_not, Nat.not_le] at hd'
            by_cases h48 : s[i].toNat < 48
            · simp [hlt, hwi, show ((s[i].toNat : Int) < 48) by omega]
              refine k2 _ _ (by simp) ?_
              simp
              exact hno
            · simp [hlt, hwi, show ¬ ((s[i].toNat : Int) < 48) by omega, show (48 : Int) ≤ s[i].toNat by omega, show ((57 : Int) < s[i].toNat) by omega]
              refine k2 _ _ (by simp) ?_
              simp
              exact hno
end Go.Dl
