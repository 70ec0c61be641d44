/- hornbeamref1.Lit: what is behind its loops, part by part. Contract of hornbeamref1.Lit. Contracts of hornbeambook: Room, values, Values, Row. hornbeamlaw12.ValueBack, walked. hornbeamref12.Parse; hornbeamlaw12.ValueTells. hornbeamlaw12.ValueTells, walked. -/
import Derived.Test.YtjmhdfcmghmgjaaDoorA16
import Derived.Test.YtjmhdfcmghmgjaaDoorA14
set_option linter.unusedVariables false
set_option linter.unusedSimpArgs false
set_option maxRecDepth 1000000
namespace Go.Dl
open Go.Proofs

theorem lenD_le (n k : Nat) (h : n < 10000 ^ k) : (limbsD n).length ≤ k := by
  rcases Nat.lt_or_ge k (limbsD n).length with h1 | h1
  · exfalso
    obtain ⟨m, hm⟩ : ∃ m, (limbsD n).length = m + 1 := ⟨(limbsD n).length - 1, by omega⟩
    have h2 := limbs_geD n m hm
    have h3 := (Nat.pow_lt_pow_iff_right (by decide : 1 < 10000)).1 (Nat.lt_of_le_of_lt h2 h)
    omega
  · exact h1
theorem pow10_lenD (m : Nat) : (limbsD (10 ^ m)).length ≤ m + 1 :=
  lenD_le _ _ (Nat.lt_of_lt_of_le (Nat.pow_lt_pow_right (by decide) (by omega : m < m + 1)) (Nat.pow_le_pow_left (by decide) _))
theorem mul_lenD (a b : Nat) : (limbsD (a * b)).length ≤ (limbsD a).length + (limbsD b).length := by
  refine lenD_le _ _ ?_
  rw [Nat.pow_add]
  exact Nat.mul_lt_mul_of_lt_of_le (limbs_ltD a) (Nat.le_of_lt (limbs_ltD b)) (Nat.pow_pos (show 0 < 10000 by decide))
theorem pD_def (n : Nat) : pD n = .sl none 1 (encD (limbsD n)) [] := rfl
theorem r_mul' (a b : Nat) (la : (limbsD a).length ≤ 400000) (lb : (limbsD b).length ≤ 400000) : PCall Tryd.prog 83 [pD a, pD b] (· = pD (a * b)) := by
  have := r_mul (limbsD a) (limbsD b) (limbs_okD a) (limbs_okD b) la lb
  rwa [val_limbsD, val_limbsD] at this
theorem encD_dig (d : Nat) (h : d ≠ 0) (h' : d < 10000) : encD (limbsD d) = [[.int .i64 (d : Int)]] := by
  rw [show limbsD d = [d] by rw [limbs_posD h, show d / 10000 = 0 by omega, limbs_zeroD, Nat.mod_eq_of_lt h']]
  rfl

def zrow : List (List PV) := [[.bool false, .sl (some true) 0 [] [], .sl (some true) 0 [] []]]
def litW (X : Int) (neg : Bool) (n : Nat) : PV := if 0 ≤ X then rmakeP neg (n * 10 ^ X.natAbs) 1 else rmakeP neg n (10 ^ X.natAbs)

set_option maxHeartbeats 2000000 in
theorem lit18 {x : Fx} {K : PV → Prop} (neg : Bool) (n : Nat) (X : Int) (hn : (limbsD n).length ≤ 1000) (hX : X.natAbs ≤ 1000)
    (hK : ∀ r, r.rsz (.tup [litW X neg n, .int .i64 0]) → K r) :
    Ok Fence.wide Tryd.prog 209 x (rtC 18 c_lit.1.code) (retQ c_lit.1.res K) ⟨209, [(10, .p (.int .i64 X)), (6, .p (.bool neg)), (12, .p (pD n)), (14, .p (pD (10 ^ X.natAbs))), (2, .ptr 2 3 0 0)], [(2, ⟨false, 3, .p zrow⟩)]⟩ := by
  refine vc_ok .wide _ ?_
  have hp := pow10_lenD X.natAbs
  have hp0 : 10 ^ X.natAbs ≠ 0 := by have := Nat.pow_pos (n := X.natAbs) (show 0 < 10 from by decide); omega
  by_cases h : 0 ≤ X
  · have hl := mul_lenD n (10 ^ X.natAbs)
    simp [c_lit, rtC, h, zrow, pD]
    refine oks_callz [] .wide [pD n, pD (10 ^ X.natAbs)] (r_mul' n (10 ^ X.natAbs) (by omega) (by omega)) (by simp) (by simp; rfl) (by simp [pD]) ?_
    rintro _ rfl
    refine oks_vc .wide ?_
    simp [pD]
    refine oks_callz [203] .wide [.bool neg, pD (n * 10 ^ X.natAbs), pD 1] (r_make neg (n * 10 ^ X.natAbs) 1 (by decide) (by omega) (Nat.le_trans (pow10_lenD 0) (by decide))) (by simp) (by simp; rfl) (by simp [pD, encD_one]) ?_
    rintro _ rfl
    refine oks_vc .wide ?_
    simp [rmakeP, pD]
    exact hK _ (by simp [litW, h, rmakeP, pD])
  · simp [c_lit, rtC, h, zrow, pD]
    refine oks_callz [] .wide [.bool neg, pD n, pD (10 ^ X.natAbs)] (r_make neg n (10 ^ X.natAbs) hp0 (by omega) (by omega)) (by simp) (by simp; rfl) (by simp [pD]) ?_
    rintro _ rfl
    refine oks_vc .wide ?_
    simp [rmakeP, pD]
    exact hK _ (by simp [litW, h, rmakeP, pD])

def ltI (X : Int) (neg : Bool) (n : Nat) (k : Nat) : St := ⟨209, [(15, .p (.int .i64 (if 0 ≤ X then (k : Int) else -(k : Int)))), (10, .p (.int .i64 X)), (6, .p (.bool neg)), (12, .p (pD n)), (14, .p (pD (10 ^ (X.natAbs - k)))), (2, .ptr 2 3 0 0)], [(2, ⟨false, 3, .p zrow⟩)]⟩
set_option maxHeartbeats 2000000 in
theorem lit17 {x : Fx} {K : PV → Prop} (neg : Bool) (n : Nat) (X : Int) (hn : (limbsD n).length ≤ 1000) (hX : X.natAbs ≤ 1000)
    (hK : ∀ r, r.rsz (.tup [litW X neg n, .int .i64 0]) → K r) :
    Ok Fence.wide Tryd.prog 209 x (rtC 17 c_lit.1.code) (retQ c_lit.1.res K) ⟨209, [(10, .p (.int .i64 X)), (6, .p (.bool neg)), (12, .p (pD n)), (14, .p (pD 1)), (2, .ptr 2 3 0 0)], [(2, ⟨false, 3, .p zrow⟩)]⟩ := by
  refine vc_cut .wide (fun _ : Unit => True) (fun _ => ⟨209, [(10, .p (.int .i64 X)), (6, .p (.bool neg)), (12, .p (pD n)), (14, .p (pD (10 ^ X.natAbs))), (2, .ptr 2 3 0 0)], [(2, ⟨false, 3, .p zrow⟩)]⟩) 1 _ _ rfl ?_ ?_
  · rintro _ _
    exact lit18 neg n X hn hX hK
  · simp [c_lit, rtC, ltC]
    refine vc_loop .wide (ltI X neg n) (fun k => k ≤ X.natAbs) id X.natAbs (Nat.le_refl _) (sub_iff (by by_cases h : 0 ≤ X <;> simp [ltI, h] <;> omega)) ?_
    rintro k hk Q k1 k2
    by_cases h0 : k = 0
    · subst h0
      simp [ltI]
      refine k2 _ _ (by simp) ?_
      simp
      exact AtC.mk () trivial (sub_iff (by simp))
    · have hp := pow10_lenD (X.natAbs - k)
      have h10 : (limbsD 10).length ≤ 400000 := Nat.le_trans (pow10_lenD 1) (by decide)
      have hs : 10 ^ (X.natAbs - k) * 10 = 10 ^ (X.natAbs - (k - 1)) := by rw [← Nat.pow_succ]; congr 1; omega
      by_cases h : 0 ≤ X
      · have hw : IntKind.i64.wrap ((k : Int) - 1) = ((k - 1 : Nat) : Int) := by rw [wrap_i64 (by omega)]; omega
        simp [ltI, h, h0, pD, zrow]
        refine oks_callz [189] .wide [pD (10 ^ (X.natAbs - k)), pD 10] (r_mul' _ 10 (by omega) h10) (by simp) (by simp; rfl) (by simp [pD, encD_dig]) ?_
        rintro _ rfl
        refine oks_vc .wide ?_
        simp [show 0 < k by omega, hw, hs]
        refine k1 _ (k - 1) (by omega) (by simp; omega) (sub_iff (by simp [ltI, h, pD, zrow]))
      · have hw : IntKind.i64.wrap (-(k : Int) + 1) = -((k - 1 : Nat) : Int) := by rw [wrap_i64 (by omega)]; omega
        simp [ltI, h, h0, pD, zrow]
        refine oks_callz [189] .wide [pD (10 ^ (X.natAbs - k)), pD 10] (r_mul' _ 10 (by omega) h10) (by simp) (by simp; rfl) (by simp [pD, encD_dig]) ?_
        rintro _ rfl
        refine oks_vc .wide ?_
        simp [show ¬ (k : Int) < 0 by omega, hw, hs]
        refine k1 _ (k - 1) (by omega) (by simp; omega) (sub_iff (by simp [ltI, h, pD, zrow]))
set_option maxHeartbeats 2000000 in
theorem lit13 {x : Fx} {K : PV → Prop} (neg en : Bool) (s : List UInt8) (B E : Nat) (hs : isNum s = true) (hl : s.length ≤ 400) (hB : B ≤ 400) (hE : E ≤ 400)
    (hK : ∀ r, r.rsz (.tup [litW ((if en then -(E : Int) else (E : Int)) - (B : Int)) neg (decval s), .int .i64 0]) → K r) :
    Ok Fence.wide Tryd.prog 209 x (rtC 13 c_lit.1.code) (retQ c_lit.1.res K) ⟨209, [(7, .p (.str s)), (8, .p (.int .i64 (B : Int))), (10, .p (.int .i64 (E : Int))), (11, .p (.bool en)), (6, .p (.bool neg)), (2, .ptr 2 3 0 0)], [(2, ⟨false, 3, .p zrow⟩)]⟩ := by
  have hnl := limbs_decvalD s hs
  refine vc_cut .wide (fun _ : Unit => True) (fun _ => ⟨209, [(10, .p (.int .i64 ((if en then -(E : Int) else (E : Int)) - (B : Int)))), (6, .p (.bool neg)), (12, .p (pD (decval s))), (14, .own 184 1 0 1 1), (2, .ptr 2 3 0 0)], [(184, ⟨false, 1, .p [[.int .i64 1]]⟩), (2, ⟨false, 3, .p zrow⟩)]⟩) 4 _ _ rfl ?_ ?_
  · rintro _ _
    refine ok_frz [184] (ok_sub ?_ (lit17 neg (decval s) _ (by omega) (by cases en <;> simp <;> omega) hK))
    exact sub_iff (by simp [pD, encD_one])
  · have hp : PCall Tryd.prog 75 [.str s] (· = .tup [pD (decval s), .int .i64 0]) := by
      have := r_parse s (by omega)
      rwa [rparseN, if_pos hs, if_pos (by omega)] at this
    have w1 : IntKind.i64.wrap (-(E : Int)) = -(E : Int) := wrap_i64 (by omega)
    have w2 : IntKind.i64.wrap (-(E : Int) - (B : Int)) = -(E : Int) - (B : Int) := wrap_i64 (by omega)
    have w3 : IntKind.i64.wrap ((E : Int) - (B : Int)) = (E : Int) - (B : Int) := wrap_i64 (by omega)
    simp [c_lit, rtC, ltC]
    refine oks_callz [] .wide [.str s] hp (by simp) (by simp; rfl) (by simp) ?_
    rintro _ rfl
    refine oks_vc .wide ?_
    cases en with
    | true =>
      simp [pD, zrow, w1, w2]
      exact AtC.mk () trivial (sub_iff (by simp [pD, zrow]))
    | false =>
      simp [pD, zrow, w3]
      exact AtC.mk () trivial (sub_iff (by simp [pD, zrow]))

/-- the result, the digits and the exponent known -/
def litG (neg : Bool) (D : List UInt8) (B : Nat) (en : Bool) (E : Nat) : PV :=
  if D.length ≤ 400 ∧ E ≤ 400 then .tup [litW ((if en then -(E : Int) else (E : Int)) - (B : Int)) neg (decval D), .int .i64 0] else .tup [errRR, .int .i64 2]
def lzI (neg en : Bool) (B E : Nat) (y : List UInt8) : St := ⟨209, [(7, .p (.str y)), (8, .p (.int .i64 (B : Int))), (10, .p (.int .i64 (E : Int))), (11, .p (.bool en)), (6, .p (.bool neg)), (2, .ptr 2 3 0 0)], [(2, ⟨false, 3, .p zrow⟩)]⟩
theorem isNum_lone (b : UInt8) (h : isDig b = true) : isNum [b] = true := by
  simp only [isNum, List.all_cons, List.all_nil, Bool.and_true, h, Bool.true_and, Bool.or_eq_true]
  by_cases e : b = 48
  · left; simp [e]
  · right
    have : b.toNat ≠ 48 := fun h => e (UInt8.toNat_inj.1 h)
    simp [this]
theorem isNum_head (b : UInt8) (r : List UInt8) (h : (b :: r).all isDig = true) (h48 : b ≠ 48) : isNum (b :: r) = true := by
  have : b.toNat ≠ 48 := fun h => h48 (UInt8.toNat_inj.1 h)
  simp only [isNum, h, Bool.true_and, Bool.or_eq_true]
  right
  simp [this]
set_option maxHeartbeats 2000000 in
theorem lit12 {x : Fx} {K : PV → Prop} (neg en : Bool) (D : List UInt8) (B E : Nat) (h0 : D ≠ []) (hD : D.all isDig = true) (hl : D.length ≤ 400) (hB : B ≤ 400) (hE : E ≤ 400)
    (hK : ∀ r, r.rsz (.tup [litW ((if en then -(E : Int) else (E : Int)) - (B : Int)) neg (decval D), .int .i64 0]) → K r) :
    Ok Fence.wide Tryd.prog 209 x (rtC 12 c_lit.1.code) (retQ c_lit.1.res K) (lzI neg en B E D) := by
  refine ok_mid (fun y : List UInt8 => isNum y = true ∧ decval y = decval D ∧ y.length ≤ 400) (lzI neg en B E) ?_ ?_
  · rintro y ⟨y1, y2, y3⟩
    exact lit13 neg en y B E y1 y3 hB hE (by rw [y2]; exact hK)
  · refine vc_ok .wide _ ?_
    simp [c_lit, rtC]
    refine vc_loop .wide (lzI neg en B E) (fun y => y ≠ [] ∧ y.all isDig = true ∧ decval y = decval D ∧ y.length ≤ D.length) List.length D ⟨h0, hD, rfl, Nat.le_refl _⟩ (sub_iff (by simp [lzI])) ?_
    rintro y ⟨y0, y1, y2, y3⟩ Q k1 k2
    rcases y with _ | ⟨b, r⟩
    · exact (y0 rfl).elim
    · rcases r with _ | ⟨c, r⟩
      · simp [lzI]
        refine k2 _ _ (by simp) ?_
        simp
        exact AtC.mk [b] ⟨isNum_lone b (by simpa using y1), y2, by simp⟩ (sub_iff (by simp [lzI]))
      · have e1 : (1 : Int) < (r.length : Int) + 1 + 1 := by omega
        by_cases hb : b = 48
        · simp [lzI, hb, e1]
          refine k1 _ (c :: r) ⟨by simp, by simpa using (by simpa using y1 : _ ∧ _).2, ?_, by simp at y3 ⊢; omega⟩ (by simp) (sub_iff (by simp [lzI]))
          rw [← y2, hb]; simp [decval]
        · have hbn : ¬ (b.toNat : Int) = 48 := fun h => hb (UInt8.toNat_inj.1 (by show b.toNat = 48; omega))
          simp [lzI, hbn, e1]
          refine k2 _ _ (by simp) ?_
          simp
          exact AtC.mk (b :: c :: r) ⟨isNum_head b _ y1 hb, y2, by omega⟩ (sub_iff (by simp [lzI]))

def lerr : List (Nat × Ob) := [(4, ⟨false, 3, .m [[.p (.bool false), .p (.sl (some true) 0 [] []), .own 16 1 0 1 1]]⟩), (2, ⟨false, 3, .p zrow⟩), (16, ⟨false, 1, .p [[.int .i64 1]]⟩)]
set_option maxHeartbeats 2000000 in
theorem lit11 {x : Fx} {K : PV → Prop} (neg en : Bool) (D : List UInt8) (B E : Nat) (h0 : D ≠ []) (hD : D.all isDig = true) (hB : B ≤ D.length)
    (hK : ∀ r, r.rsz (litG neg D B en E) → K r) :
    Ok Fence.wide Tryd.prog 209 x (rtC 11 c_lit.1.code) (retQ c_lit.1.res K) ⟨209, [(7, .p (.str D)), (8, .p (.int .i64 (B : Int))), (10, .p (.int .i64 (E : Int))), (11, .p (.bool en)), (6, .p (.bool neg)), (4, .ptr 4 3 0 0), (2, .ptr 2 3 0 0)], lerr⟩ := by
  refine ok_mid (fun _ : Unit => D.length ≤ 400 ∧ E ≤ 400) (fun _ => lzI neg en B E D) ?_ ?_
  · rintro _ ⟨y1, y2⟩
    exact lit12 neg en D B E h0 hD y1 (by omega) y2 (by rw [litG, if_pos ⟨y1, y2⟩] at hK; exact hK)
  · refine vc_ok .wide _ ?_
    by_cases h1 : D.length ≤ 400
    · by_cases h2 : E ≤ 400
      · simp [c_lit, rtC, lerr, zrow, show ¬ 400 < D.length by omega, show ¬ (400 : Int) < D.length by omega, show ¬ 400 < E by omega, show ¬ (400 : Int) < E by omega]
        exact AtC.mk () ⟨h1, h2⟩ (sub_iff (by simp [lzI, zrow]))
      · simp [c_lit, rtC, lerr, zrow, show ¬ 400 < D.length by omega, show ¬ (400 : Int) < D.length by omega, show 400 < E by omega, show (400 : Int) < E by omega]
        exact hK _ (by simp [litG, h1, h2, errRR, encRR, pD, limbs_zeroD, encD_one])
    · simp [c_lit, rtC, lerr, zrow, show 400 < D.length by omega, show (400 : Int) < D.length by omega]
      exact hK _ (by simp [litG, h1, errRR, encRR, pD, limbs_zeroD, encD_one])

/-- the result, the digits ahead known; t: what is left -/
def litT (neg : Bool) (D : List UInt8) (B : Nat) : List UInt8 → PV
  | [] => litG neg D B false 0
  | c :: r => if isE c ∧ (dsg r).1 ≠ [] ∧ (dsg r).1.all isDig then litG neg D B (dsg r).2 (capE (dsg r).1) else .tup [errRR, .int .i64 3]
def leI (s : List UInt8) (neg : Bool) (D : List UInt8) (B : Nat) (en : Bool) (y : Nat × Nat) : St := ⟨209, [(0, .p (.str s)), (5, .p (.int .i64 (y.1 : Int))), (7, .p (.str D)), (8, .p (.int .i64 (B : Int))), (10, .p (.int .i64 (y.2 : Int))), (11, .p (.bool en)), (6, .p (.bool neg)), (4, .ptr 4 3 0 0), (2, .ptr 2 3 0 0)], lerr⟩
theorem dsg_front (s : List UInt8) (i : Nat) (hi : i ≤ s.length) : ∃ (o : Nat) (ng : Bool), o ≤ s.length ∧ i ≤ o ∧ dsg (s.drop i) = (s.drop o, ng) ∧
    ((i = s.length ∧ o = i ∧ ng = false) ∨ (∃ h : i < s.length, s[i] = 45 ∧ o = i + 1 ∧ ng = true) ∨ (∃ h : i < s.length, s[i] = 43 ∧ o = i + 1 ∧ ng = false) ∨
      (∃ h : i < s.length, ¬ (s[i].toNat : Int) = 45 ∧ ¬ (s[i].toNat : Int) = 43 ∧ o = i ∧ ng = false)) := by
  rcases Nat.lt_or_ge i s.length with h | h
  · have hd : s.drop i = s[i] :: s.drop (i + 1) := List.drop_eq_getElem_cons h
    by_cases h1 : s[i] = 45
    · exact ⟨i + 1, true, h, by omega, by rw [hd]; simp [dsg, cutPre, h1], .inr (.inl ⟨h, h1, rfl, rfl⟩)⟩
    · by_cases h2 : s[i] = 43
      · exact ⟨i + 1, false, h, by omega, by rw [hd]; simp [dsg, cutPre, h1, h2], .inr (.inr (.inl ⟨h, h2, rfl, rfl⟩))⟩
      · have n1 : ¬ (s[i].toNat : Int) = 45 := fun h => h1 (UInt8.toNat_inj.1 (by show s[i].toNat = 45; omega))
        have n2 : ¬ (s[i].toNat : Int) = 43 := fun h => h2 (UInt8.toNat_inj.1 (by show s[i].toNat = 43; omega))
        exact ⟨i, false, by omega, by omega, by rw [hd]; simp [dsg, cutPre, h1, h2], .inr (.inr (.inr ⟨h, n1, n2, rfl, rfl⟩))⟩
  · have : i = s.length := by omega
    subst this
    exact ⟨s.length, false, by omega, by omega, by simp [dsg, cutPre], .inl ⟨rfl, rfl, rfl⟩⟩
def capF (e : Nat) (t : List UInt8) : Nat := t.foldl (fun a b => min (a * 10 + (b.toNat - 48)) 1000) e
theorem foldl_capF (e : Nat) (c : UInt8) (t : List UInt8) : capF e (c :: t) = capF (min (e * 10 + (c.toNat - 48)) 1000) t := by unfold capF; rw [List.foldl_cons]
abbrev litK (neg : Bool) (D : List UInt8) (B : Nat) (K : PV → Prop) : Exit → St → Prop := KC (fun y : Bool × Nat => ∀ r, r.rsz (litG neg D B y.1 y.2) → K r) (fun y => ⟨209, [(7, .p (.str D)), (8, .p (.int .i64 (B : Int))), (10, .p (.int .i64 (y.2 : Int))), (11, .p (.bool y.1)), (6, .p (.bool neg)), (4, .ptr 4 3 0 0), (2, .ptr 2 3 0 0)], lerr⟩) (retQ c_lit.1.res K)
set_option maxHeartbeats 4000000 in
theorem lit10 {x : Fx} {K : PV → Prop} (s : List UInt8) (neg : Bool) (D : List UInt8) (B i : Nat) (hs : s.length ≤ 1000) (hlt : i < s.length)
    (err : ¬ ((dsg (s.drop (i + 1))).1 ≠ [] ∧ (dsg (s.drop (i + 1))).1.all isDig = true) → ∀ r, r.rsz (.tup [errRR, .int .i64 3]) → K r)
    (hK : (dsg (s.drop (i + 1))).1 ≠ [] → (dsg (s.drop (i + 1))).1.all isDig = true → ∀ r, r.rsz (litG neg D B (dsg (s.drop (i + 1))).2 (capE (dsg (s.drop (i + 1))).1)) → K r) :
    Ok Fence.wide Tryd.prog 209 x (rtC 1 (thC (tlC (hdC (rtC 10 c_lit.1.code))))) (litK neg D B K)
      ⟨209, [(11, .p (.bool false)), (10, .p (.int .i64 0)), (8, .p (.int .i64 (B : Int))), (7, .p (.str D)), (6, .p (.bool neg)), (5, .p (.int .i64 (i : Int))), (4, .ptr 4 3 0 0), (2, .ptr 2 3 0 0), (0, .p (.str s))], lerr⟩ := by
  obtain ⟨m, hm⟩ : ∃ m, m = i + 1 := ⟨_, rfl⟩
  have w1 : IntKind.i64.wrap ((i : Int) + 1) = (m : Int) := by rw [wrap_i64 (by omega)]; omega
  rw [← hm] at err hK
  obtain ⟨j, en, j1, j2, j3, j4⟩ := dsg_front s m (by omega)
  rw [j3] at err hK
  have w2 : IntKind.i64.wrap ((m : Int) + 1) = (m : Int) + 1 := wrap_i64 (by omega)
  refine ok_fst .wide ?_
  simp [c_lit, rtC, thC, tlC, hdC, w1]
  refine ok_mid (fun _ : Unit => True) (fun _ => leI s neg D B en (j, 0)) ?_ ?_
  · rintro _ _
    refine ok_fst .wide ?_
    by_cases hj : j = s.length
    · have h0 := err (fun h => h.1 (by rw [hj]; exact List.drop_length))
      simp [c_lit, leI, hj, lerr, zrow]
      exact h0 _ (by simp [errRR, encRR, pD, limbs_zeroD, encD_one])
    · simp [leI, show ¬ (j : Int) = (s.length : Int) by omega]
      refine vc_ok .wide _ ?_
      simp
      refine vc_loop .wide (leI s neg D B en) (fun y => y.1 ≤ s.length ∧ y.2 ≤ 1000 ∧ capF y.2 (s.drop y.1) = capE (s.drop j) ∧ (s.drop y.1).all isDig = (s.drop j).all isDig) (fun y => s.length - y.1) (j, 0) ⟨j1, by simp, rfl, rfl⟩ (sub_iff (by simp [leI, lerr])) ?_
      rintro ⟨k, e⟩ ⟨k1, k2, k3, k4⟩ Q g1 g2
      simp only at k1 k2 k3 k4
      have hne : s.drop j ≠ [] := fun h => by have := congrArg List.length h; simp at this; omega
      by_cases hk : k = s.length
      · rw [hk, List.drop_length] at k3 k4
        simp [leI, hk]
        refine g2 _ _ (by simp) ?_
        simp
        exact AtC.mk (en, e) (by have := hK hne (by simpa using k4.symm); rw [← k3] at this; exact this) (sub_iff (by simp [lerr]))
      · have hkl : k < s.length := by omega
        have hd : s.drop k = s[k] :: s.drop (k + 1) := List.drop_eq_getElem_cons hkl
        by_cases hdig : isDig s[k] = true
        · have hd' := hdig
          simp only [isDig, Bool.and_eq_true, decide_eq_true_eq] at hd'
          obtain ⟨d, hdd⟩ : ∃ d, d = s[k].toNat - 48 := ⟨_, rfl⟩
          obtain ⟨e', he'⟩ : ∃ e', e' = min (e * 10 + d) 1000 := ⟨_, rfl⟩
          have v1 : IntKind.u8.wrap ((s[k].toNat : Int) - 48) = (d : Int) := by rw [wrap_u8']; omega
          have v2 : IntKind.i64.wrap (d : Int) = (d : Int) := wrap_i64 (by omega)
          have v3 : IntKind.i64.wrap ((e : Int) * 10) = (e : Int) * 10 := wrap_i64 (by omega)
          have v4 : IntKind.i64.wrap ((e : Int) * 10 + (d : Int)) = (e : Int) * 10 + (d : Int) := wrap_i64 (by omega)
          have v5 : min ((e : Int) * 10 + (d : Int)) 1000 = (e' : Int) := by omega
          have v6 : IntKind.i64.wrap ((k : Int) + 1) = (k : Int) + 1 := wrap_i64 (by omega)
          simp [leI, hkl, show ¬ (s[k].toNat : Int) < 48 by omega, show ¬ (57 : Int) < s[k].toNat by omega, v1, v2, v3, v4, v5, v6]
          refine g1 _ (k + 1, e') ⟨by simp; omega, by simp; omega, ?_, ?_⟩ (by simp; omega) (sub_iff (by simp [leI, lerr]))
          · simp only; rw [← k3, hd, foldl_capF, ← hdd, ← he']
          · simp only; rw [← k4, hd, List.all_cons, hdig]; rfl
        · have hd' := hdig
          simp only [isDig, Bool.and_eq_true, decide_eq_true_eq, not_and, Nat.not_le] at hd'
          have h0 := err (fun h => by have h' := h.2; simp only at h'; rw [← k4, hd, List.all_cons] at h'; simp [hdig] at h')
          by_cases c1 : s[k].toNat < 48
          · simp [leI, hkl, show (s[k].toNat : Int) < 48 by omega, lerr, zrow]
            refine g2 _ _ (by simp) ?_
            simp [c_lit]
            exact h0 _ (by simp [errRR, encRR, pD, limbs_zeroD, encD_one])
          · simp [leI, hkl, show ¬ (s[k].toNat : Int) < 48 by omega, show (57 : Int) < s[k].toNat by omega, lerr, zrow]
            refine g2 _ _ (by simp) ?_
            simp [c_lit]
            exact h0 _ (by simp [errRR, encRR, pD, limbs_zeroD, encD_one])
  · refine vc_ok .wide _ ?_
    rcases j4 with ⟨a1, a2, a3⟩ | ⟨a0, a1, a2, a3⟩ | ⟨a0, a1, a2, a3⟩ | ⟨a0, a1, a1', a2, a3⟩
    · simp [show ¬ (m < s.length) by omega, show ¬ (m : Int) < s.length by omega]
      exact AtC.mk () trivial (sub_iff (by simp [leI, lerr, a2, a3]))
    · have a1' : (s[m].toNat : Int) = 45 := by rw [a1]; rfl
      simp [a0, a1', w2]
      exact AtC.mk () trivial (sub_iff (by simp [leI, lerr, a2, a3, w2]))
    · have a1' : (s[m].toNat : Int) = 43 := by rw [a1]; rfl
      simp [a0, a1', w2]
      exact AtC.mk () trivial (sub_iff (by simp [leI, lerr, a2, a3, w2]))
    · simp [a0, a1, a1']
      exact AtC.mk () trivial (sub_iff (by simp [leI, lerr, a2, a3]))

set_option maxHeartbeats 4000000 in
theorem lit9 {x : Fx} {K : PV → Prop} (s : List UInt8) (neg p : Bool) (D : List UInt8) (B i : Nat) (hs : s.length ≤ 1000) (hi : i ≤ s.length) (h0 : D ≠ []) (hD : D.all isDig = true) (hB : B ≤ D.length)
    (hK : ∀ r, r.rsz (litT neg D B (s.drop i)) → K r) :
    Ok Fence.wide Tryd.prog 209 x (rtC 9 c_lit.1.code) (retQ c_lit.1.res K) ⟨209, [(8, .p (.int .i64 (B : Int))), (7, .p (.str D)), (6, .p (.bool neg)), (5, .p (.int .i64 (i : Int))), (4, .ptr 4 3 0 0), (2, .ptr 2 3 0 0), (0, .p (.str s))], lerr⟩ := by
  refine ok_fst .wide ?_
  simp [c_lit, rtC]
  refine ok_mid (fun y : Bool × Nat => ∀ r, r.rsz (litG neg D B y.1 y.2) → K r) (fun y => ⟨209, [(7, .p (.str D)), (8, .p (.int .i64 (B : Int))), (10, .p (.int .i64 (y.2 : Int))), (11, .p (.bool y.1)), (6, .p (.bool neg)), (4, .ptr 4 3 0 0), (2, .ptr 2 3 0 0)], lerr⟩) ?_ ?_
  · rintro ⟨en, E⟩ h
    exact lit11 neg en D B E h0 hD hB h
  · refine ok_fst .wide ?_
    rcases Nat.lt_or_ge i s.length with hlt | hge
    · have hd : s.drop i = s[i] :: s.drop (i + 1) := List.drop_eq_getElem_cons hlt
      have w1 : IntKind.i64.wrap ((i : Int) + 1) = ((i + 1 : Nat) : Int) := by rw [wrap_i64 (by omega)]; omega
      simp [hlt]
      refine ok_cond (t := true) (by simp) (fun _ => ?_) (fun h => by cases h)
      have err : ¬ (isE s[i] = true ∧ (dsg (s.drop (i + 1))).1 ≠ [] ∧ (dsg (s.drop (i + 1))).1.all isDig = true) → ∀ r, r.rsz (.tup [errRR, .int .i64 3]) → K r := fun hn r hr => hK r (by rw [hd, litT, if_neg hn]; exact hr)
      refine ok_fst .wide ?_
      by_cases hE : isE s[i] = true
      · have hE' := hE
        simp only [isE, Bool.or_eq_true, beq_iff_eq] at hE'
        have hEn : ((s[i].toNat : Int) = 101 ∨ (s[i].toNat : Int) = 69) := by omega
        have go : Ok Fence.wide Tryd.prog 209 x (rtC 1 (thC (tlC (hdC (rtC 10 c_lit.1.code))))) (KC (fun y : Bool × Nat => ∀ r, r.rsz (litG neg D B y.1 y.2) → K r) (fun y => ⟨209, [(7, .p (.str D)), (8, .p (.int .i64 (B : Int))), (10, .p (.int .i64 (y.2 : Int))), (11, .p (.bool y.1)), (6, .p (.bool neg)), (4, .ptr 4 3 0 0), (2, .ptr 2 3 0 0)], lerr⟩) (retQ c_lit.1.res K))
            ⟨209, [(11, .p (.bool false)), (10, .p (.int .i64 0)), (8, .p (.int .i64 (B : Int))), (7, .p (.str D)), (6, .p (.bool neg)), (5, .p (.int .i64 (i : Int))), (4, .ptr 4 3 0 0), (2, .ptr 2 3 0 0), (0, .p (.str s))], lerr⟩ := by
          exact lit10 s neg D B i hs hlt (fun h => err (fun h' => h ⟨h'.2.1, h'.2.2⟩)) (fun h1 h2 => by rw [hd, litT, if_pos ⟨hE, h1, h2⟩] at hK; exact hK)
        rcases hEn with h1 | h1
        · simp [hlt, h1]
          exact ok_sub (sub_iff (by simp [lerr])) go
        · simp [hlt, h1]
          exact ok_sub (sub_iff (by simp [lerr])) go
      · have hE' := hE
        simp only [isE, Bool.or_eq_true, beq_iff_eq, not_or] at hE'
        simp [c_lit, hlt, show ¬ (s[i].toNat : Int) = 101 by omega, show ¬ (s[i].toNat : Int) = 69 by omega, lerr, zrow]
        exact err (fun h => hE h.1) _ (by simp [errRR, encRR, pD, limbs_zeroD, encD_one])
    · have : i = s.length := by omega
      subst this
      simp
      refine vc_ok .wide _ ?_
      simp
      exact AtC.mk (false, 0) (by simpa [litT] using hK) (sub_iff (by simp [lerr]))
end Go.Dl
set_option linter.unusedVariables false
set_option linter.unusedSimpArgs false
set_option maxRecDepth 1000000
namespace Go.Dl
open Go.Proofs

def liI (s : List UInt8) (ng : Bool) (y : Nat × List UInt8 × Nat × Bool) : St := ⟨209, [(9, .p (.bool y.2.2.2)), (8, .p (.int .i64 (y.2.2.1 : Int))), (7, .p (.str y.2.1)), (6, .p (.bool ng)), (5, .p (.int .i64 (y.1 : Int))), (4, .ptr 4 3 0 0), (2, .ptr 2 3 0 0), (0, .p (.str s))],
  [(4, ⟨false, 3, .m [[.p (.bool false), .p (.sl (some true) 0 [] []), .own 16 1 0 1 1]]⟩), (2, ⟨false, 3, .p [[.bool false, .sl (some true) 0 [] [], .sl (some true) 0 [] []]]⟩), (16, ⟨false, 1, .p [[.int .i64 1]]⟩)]⟩
def LiAt (s : List UInt8) (o : Nat) (y : Nat × List UInt8 × Nat × Bool) : Prop :=
  y.1 ≤ s.length ∧ y.2.1.length ≤ y.1 ∧ y.2.2.1 ≤ y.1 ∧ lm false (s.drop o) = (y.2.1 ++ (lm y.2.2.2 (s.drop y.1)).1, y.2.2.1 + (lm y.2.2.2 (s.drop y.1)).2.1, (lm y.2.2.2 (s.drop y.1)).2.2)

theorem lm_behind : ∀ (p : Bool) (s : List UInt8), (lm p s).2.1 ≤ (lm p s).1.length
  | _, [] => by simp [lm]
  | p, c :: r => by
    unfold lm
    split
    · have := lm_behind p r
      cases p <;> simp <;> omega
    · split
      · exact lm_behind true r
      · simp
/-- what the reference reads out of a literal -/
def rlitA (s : List UInt8) : PV := if (lm false (dsg s).1).1 = [] then .tup [errRR, .int .i64 3] else litT (dsg s).2 (lm false (dsg s).1).1 (lm false (dsg s).1).2.1 (lm false (dsg s).1).2.2
/-- the same by the literal's parts -/
def rlitP (p : Parts) : PV := if partsOk p then litG p.neg p.all p.behind p.expNeg (capE p.exp) else .tup [errRR, .int .i64 3]
theorem rlit_eq (s : List UInt8) : rlitA s = rlitP (parts s) := by
  unfold rlitA rlitP
  cases hg : goodM false (mant s) with
  | false =>
    have hn : partsOk (parts s) = false := by
      have := parts_good s
      rw [hg] at this
      simp [partsOk, this]
    obtain ⟨c, r, e1, e2⟩ := lm_parts_no s hg
    rw [hn, e1]
    simp [litT, e2]
  | true =>
    have hl := lm_parts s hg
    have hall : (parts s).all.all isDig = true := by rw [parts_good, hg]
    rw [hl]
    by_cases h0 : (parts s).all = []
    · simp [h0, partsOk]
    · have hneg : (dsg s).2 = (parts s).neg := rfl
      rcases isE_behind (dsg s).1 with h | ⟨c, h1, h2, h3⟩
      · have hr : rest s = [] := h
        have hE : partsE s = ([48], false) := by
          unfold partsE
          rw [if_neg]
          intro hlt
          have := congrArg List.length h
          simp at this
          omega
        have e1 : (parts s).exp = [48] := by show (partsE s).1 = _; rw [hE]
        have e2 : (parts s).expNeg = false := by show (partsE s).2 = _; rw [hE]
        have hok : partsOk (parts s) = true := by simp [partsOk, h0, e1, hall, isDig]
        rw [hr, hok]
        simp [h0, litT, e1, e2, hneg]
        rfl
      · have hr : rest s = c :: (dsg s).1.drop (cutAt (dsg s).1 + 1) := h1
        have hE : partsE s = dsg ((dsg s).1.drop (cutAt (dsg s).1 + 1)) := by unfold partsE; rw [if_pos h3]
        have e1 : (parts s).exp = (dsg ((dsg s).1.drop (cutAt (dsg s).1 + 1))).1 := by show (partsE s).1 = _; rw [hE]
        have e2 : (parts s).expNeg = (dsg ((dsg s).1.drop (cutAt (dsg s).1 + 1))).2 := by show (partsE s).2 = _; rw [hE]
        rw [hr]
        simp only [litT, ← e1, ← e2, hneg, h2]
        by_cases hx : (parts s).exp ≠ [] ∧ (parts s).exp.all isDig = true
        · have hok : partsOk (parts s) = true := by simp [partsOk, h0, hall, hx]
          simp [h0, hok, hx]
        · have hok : ¬ partsOk (parts s) = true := by
            simp only [partsOk, Bool.and_eq_true, decide_eq_true_eq, not_and]
            intro ⟨⟨a, b⟩, _⟩ c
            exact hx ⟨b, c⟩
          rw [if_neg h0, if_neg hok, if_neg (fun h => hx ⟨h.2.1, h.2.2⟩)]
set_option maxHeartbeats 8000000 in
theorem r_lit (s : List UInt8) (hs : s.length ≤ 1000) : PCall Tryd.prog 51 [.str s] (· = rlitA s) := by
  refine pcall_okz c_lit (by simp [c_lit]) fun x K hK => ?_
  have front : ∃ (o : Nat) (ng : Bool), o ≤ s.length ∧ (dsg s).1 = s.drop o ∧ (dsg s).2 = ng ∧
      ((s = [] ∧ o = 0 ∧ ng = false) ∨ (∃ r, s = 45 :: r ∧ o = 1 ∧ ng = true) ∨ (∃ r, s = 43 :: r ∧ o = 1 ∧ ng = false) ∨ (∃ b r, s = b :: r ∧ ¬ (b.toNat : Int) = 45 ∧ ¬ (b.toNat : Int) = 43 ∧ o = 0 ∧ ng = false)) := by
    rcases s with _ | ⟨b, r⟩
    · exact ⟨0, false, by simp, rfl, rfl, .inl ⟨rfl, rfl, rfl⟩⟩
    · by_cases h1 : b = 45
      · exact ⟨1, true, by simp, by simp [dsg, cutPre, h1], by simp [dsg, cutPre, h1], .inr (.inl ⟨r, by rw [h1], rfl, rfl⟩)⟩
      · by_cases h2 : b = 43
        · exact ⟨1, false, by simp, by simp [dsg, cutPre, h1, h2], by simp [dsg, cutPre, h1], .inr (.inr (.inl ⟨r, by rw [h2], rfl, rfl⟩))⟩
        · have n1 : ¬ (b.toNat : Int) = 45 := fun h => h1 (UInt8.toNat_inj.1 (by show b.toNat = 45; omega))
          have n2 : ¬ (b.toNat : Int) = 43 := fun h => h2 (UInt8.toNat_inj.1 (by show b.toNat = 43; omega))
          exact ⟨0, false, by simp, by simp [dsg, cutPre, h1, h2], by simp [dsg, cutPre, h1], .inr (.inr (.inr ⟨b, r, rfl, n1, n2, rfl, rfl⟩))⟩
  obtain ⟨o, ng, ho, hd1, hd2, hc⟩ := front
  have hd1e : (dsg s).1 = s.drop o := hd1
  have hd2e : (dsg s).2 = ng := hd2
  have start : LiAt s o (o, [], 0, false) := ⟨ho, by simp, by simp, by simp⟩
  have w1 : IntKind.i64.wrap 1 = 1 := rfl
  refine vc_cut .wide (fun _ : Unit => True) (fun _ => liI s ng (o, [], 0, false)) 7 _ _ rfl ?_ ?_
  · rintro _ _
    refine vc_cut .wide (fun y : Nat × List UInt8 × Nat × Bool => lm false (s.drop o) = (y.2.1, y.2.2.1, s.drop y.1) ∧ y.1 ≤ s.length ∧ y.2.1.length ≤ y.1 ∧ y.2.2.1 ≤ y.1) (liI s ng) 1 _ _ rfl ?_ ?_
    · rintro ⟨i, D, B, p⟩ ⟨b1, b2, b3, b4⟩
      simp only at b1 b2 b3 b4
      refine ok_fst .wide ?_
      have hres : rlitA s = if D = [] then .tup [errRR, .int .i64 3] else litT ng D B (s.drop i) := by unfold rlitA; rw [hd1e, b1, hd2e]
      rw [hres] at hK
      by_cases hD0 : D = []
      · rw [if_pos hD0] at hK
        simp [c_lit, rtC, liI, hD0, zrow]
        exact hK _ _ rfl (by simp [errRR, encRR, pD, limbs_zeroD, encD_one])
      · rw [if_neg hD0] at hK
        simp [c_lit, rtC, liI, hD0]
        have hDd : D.all isDig = true := by have := lm_dig false (s.drop o); rwa [b1] at this
        have hBD : B ≤ D.length := by have := lm_behind false (s.drop o); rw [b1] at this; simpa using this
        exact ok_sub (sub_iff (by simp [lerr, zrow])) (lit9 s ng p D B i hs b2 hD0 hDd hBD (fun r hr => hK r _ rfl hr))
    · simp [c_lit, ltC, rtC]
      refine vc_loop .wide (liI s ng) (LiAt s o) (fun y => s.length - y.1) (o, [], 0, false) start (sub_iff (by simp)) ?_
      rintro ⟨i, D, B, p⟩ ⟨a1, a2, a3, a4⟩ Q g1 g2
      simp only at a1 a2 a3 a4
      by_cases hi : i = s.length
      · have hlm : lm p (s.drop i) = ([], 0, s.drop i) := by rw [hi, List.drop_length]; cases p <;> rfl
        simp [liI, hi]
        refine g2 _ _ (by simp) ?_
        simp
        exact AtC.mk (i, D, B, p) ⟨by rw [a4, hlm]; simp, by simpa using a1, by simpa using a2, by simpa using a3⟩ (sub_iff (by simp [liI, hi]))
      · have hlt : i < s.length := by omega
        have hw : IntKind.i64.wrap ((i : Int) + 1) = (i : Int) + 1 := wrap_i64 (by omega)
        have hwB : IntKind.i64.wrap ((B : Int) + 1) = (B : Int) + 1 := wrap_i64 (by omega)
        have hdrop : s.drop i = s[i] :: s.drop (i + 1) := List.drop_eq_getElem_cons hlt
        by_cases hd : isDig s[i] = true
        · have hd' := hd
          simp only [isDig, Bool.and_eq_true, decide_eq_true_eq] at hd'
          have hlm : lm p (s.drop i) = (s[i] :: (lm p (s.drop (i + 1))).1, (if p then 1 else 0) + (lm p (s.drop (i + 1))).2.1, (lm p (s.drop (i + 1))).2.2) := by rw [hdrop, lm, if_pos hd]
          have htk : List.take 1 (List.drop i s) = [s[i]] := by rw [hdrop]; rfl
          cases p with
          | false =>
            simp [liI, hlt, hw, show (48 : Int) ≤ s[i].toNat by omega, show (s[i].toNat : Int) ≤ 57 by omega, show ¬ (s[i].toNat : Int) = 46 by omega, htk, show D.length + 1 ≤ 9223372036854775807 by omega, show i ≤ i + 1 by omega, show i + 1 ≤ s.length by omega, show (i : Int) ≤ (i : Int) + 1 by omega, show (0 : Int) ≤ (i : Int) + 1 by omega]
            refine g1 _ (i + 1, D ++ [s[i]], B, false) ⟨by simp; omega, by simp; omega, by simp; omega, ?_⟩ (by simp; omega) (sub_iff (by simp [liI]))
            rw [a4, hlm]; simp
          | true =>
            simp [liI, hlt, hw, hwB, show (48 : Int) ≤ s[i].toNat by omega, show (s[i].toNat : Int) ≤ 57 by omega, show ¬ (s[i].toNat : Int) = 46 by omega, htk, show D.length + 1 ≤ 9223372036854775807 by omega, show i ≤ i + 1 by omega, show i + 1 ≤ s.length by omega, show (i : Int) ≤ (i : Int) + 1 by omega, show (0 : Int) ≤ (i : Int) + 1 by omega]
            refine g1 _ (i + 1, D ++ [s[i]], B + 1, true) ⟨by simp; omega, by simp; omega, by simp; omega, ?_⟩ (by simp; omega) (sub_iff (by simp [liI]))
            rw [a4, hlm]; simp; omega
        · have hd' := hd
          simp only [isDig, Bool.and_eq_true, decide_eq_true_eq, not_and, Nat.not_le] at hd'
          by_cases h46 : s[i] = 46 ∧ p = false
          · obtain ⟨hc, rfl⟩ := h46
            have hlm : lm false (s.drop i) = lm true (s.drop (i + 1)) := by rw [hdrop, lm, if_neg hd, if_pos ⟨hc, rfl⟩]
            have hcn : (s[i].toNat : Int) = 46 := by rw [hc]; rfl
            simp [liI, hlt, hw, hcn]
            refine g1 _ (i + 1, D, B, true) ⟨by simp; omega, by simp; omega, by simp; omega, ?_⟩ (by simp; omega) (sub_iff (by simp [liI]))
            rw [a4, hlm]
          · have hlm : lm p (s.drop i) = ([], 0, s.drop i) := by rw [hdrop, lm, if_neg hd, if_neg h46]
            by_cases c1 : s[i].toNat < 48
            · by_cases c2 : (s[i].toNat : Int) = 46
              · cases p with
                | false => exact (h46 ⟨UInt8.toNat_inj.1 (by show s[i].toNat = 46; omega), rfl⟩).elim
                | true =>
                  simp [liI, hlt, c2]
                  refine g2 _ _ (by simp) ?_
                  simp
                  exact AtC.mk (i, D, B, true) ⟨by rw [a4, hlm]; simp, by simpa using a1, by simpa using a2, by simpa using a3⟩ (sub_iff (by simp [liI]))
              · simp [liI, hlt, c2, show ¬ (48 : Int) ≤ s[i].toNat by omega]
                refine g2 _ _ (by simp) ?_
                simp
                exact AtC.mk (i, D, B, p) ⟨by rw [a4, hlm]; simp, by simpa using a1, by simpa using a2, by simpa using a3⟩ (sub_iff (by simp [liI]))
            · have c3 := hd' (by omega)
              simp [liI, hlt, show (48 : Int) ≤ s[i].toNat by omega, show ¬ (s[i].toNat : Int) ≤ 57 by omega, show ¬ (s[i].toNat : Int) = 46 by omega]
              refine g2 _ _ (by simp) ?_
              simp
              exact AtC.mk (i, D, B, p) ⟨by rw [a4, hlm]; simp, by simpa using a1, by simpa using a2, by simpa using a3⟩ (sub_iff (by simp [liI]))
  · rcases hc with ⟨hsx, hox, hngx⟩ | ⟨r, hsx, hox, hngx⟩ | ⟨r, hsx, hox, hngx⟩ | ⟨b, r, hsx, n1, n2, hox, hngx⟩
    · simp [c_lit, ltC, hsx]
      exact AtC.mk () trivial (sub_iff (by simp [liI, hsx, hox, hngx, w1]))
    · simp [c_lit, ltC, hsx]
      exact AtC.mk () trivial (sub_iff (by simp [liI, hsx, hox, hngx, w1]))
    · simp [c_lit, ltC, hsx]
      exact AtC.mk () trivial (sub_iff (by simp [liI, hsx, hox, hngx, w1]))
    · simp [c_lit, ltC, hsx, n1, n2]
      exact AtC.mk () trivial (sub_iff (by simp [liI, hsx, hox, hngx, w1]))
end Go.Dl
set_option linter.unusedVariables false
set_option linter.unusedSimpArgs false
set_option maxRecDepth 1000000
namespace Go.Dl
open Go.Proofs

noncomputable def c_bkroom : { d : DFn // compF Tryd.prog 53 = some d } := by
  refine ⟨?_, ?_⟩
  rotate_left
  · conv => lhs; reduce
noncomputable def c_bkvalues : { d : DFn // compF Tryd.prog 45 = some d } := by
  refine ⟨?_, ?_⟩
  rotate_left
  · conv => lhs; reduce
noncomputable def c_bkValues : { d : DFn // compF Tryd.prog 17 = some d } := by
  refine ⟨?_, ?_⟩
  rotate_left
  · conv => lhs; reduce
noncomputable def c_bkrow : { d : DFn // compF Tryd.prog 7 = some d } := by
  refine ⟨?_, ?_⟩
  rotate_left
  · conv => lhs; reduce

def roomF (room : Int) : List Int → Int
  | [] => room
  | x :: r => if room < 0 ∨ room < x then -1 else roomF (room - x) r
theorem r_room (room : Int) (l : List Int) (hr : -9223372036854775808 ≤ room ∧ room ≤ 9223372036854775807) (hl : ∀ x, x ∈ l → 0 ≤ x) (hlen : l.length ≤ 1000) : PCall Tryd.prog 53 [.int .i64 room, .sl none 1 (encI l) []] (· = .int .i64 (roomF room l)) := by
  refine pcall_vc c_bkroom (by simp [c_bkroom]) fun x K hK => ?_
  simp [c_bkroom]
  refine vc_loop .wide (fun y : Nat × Int => ⟨29, [(5, .p (.int .i64 (y.1 : Int))), (0, .p (.int .i64 y.2)), (1, .p (.sl none 1 (encI l) []))], []⟩)
    (fun y => y.1 ≤ l.length ∧ roomF y.2 (l.drop y.1) = roomF room l ∧ -9223372036854775808 ≤ y.2 ∧ y.2 ≤ 9223372036854775807) (fun y => l.length - y.1) (0, room) ⟨by simp, by simp, hr⟩ (sub_iff (by simp)) ?_
  rintro ⟨i, rm⟩ ⟨h1, h2, h3, h4⟩ Q k1 k2
  simp only at h1 h2 h3 h4
  by_cases hi : i = l.length
  · subst hi
    simp [roomF] at h2
    simp
    refine k2 _ _ (by simp) ?_
    simp
    exact hK _ (by rw [h2])
  · have hlt : i < l.length := by omega
    have hx := hl _ (List.getElem_mem hlt)
    have hw : IntKind.i64.wrap ((i : Int) + 1) = (i : Int) + 1 := wrap_i64 (by omega)
    rw [List.drop_eq_getElem_cons hlt, roomF] at h2
    by_cases c1 : rm < 0
    · rw [if_pos (.inl c1)] at h2
      simp [hlt, c1]
      refine k2 _ _ (by simp) ?_
      simp
      exact hK _ (by rw [← h2])
    · by_cases c2 : rm < l[i]
      · rw [if_pos (.inr c2)] at h2
        simp [hlt, c1, c2]
        refine k2 _ _ (by simp) ?_
        simp
        exact hK _ (by rw [← h2])
      · rw [if_neg (by omega)] at h2
        have hw' : IntKind.i64.wrap (rm - l[i]) = rm - l[i] := wrap_i64 (by omega)
        simp [hlt, c1, c2, hw, hw']
        exact k1 _ (i + 1, rm - l[i]) ⟨by omega, h2, by simp only; omega, by simp only; omega⟩ (by simp only; omega) (sub_iff (by simp))
theorem roomF_le : ∀ (l : List Int) (room : Int), (∀ x, x ∈ l → 0 ≤ x) → -9223372036854775808 ≤ room → (roomF room l ≤ room ∨ roomF room l = -1) ∧ -9223372036854775808 ≤ roomF room l
  | [], room, _, h => ⟨.inl (Int.le_refl _), h⟩
  | x :: r, room, hl, h => by
    have hx := hl x (by simp)
    unfold roomF
    split
    · exact ⟨.inr rfl, by omega⟩
    · rename_i hc
      have := roomF_le r (room - x) (fun y hy => hl y (by simp [hy])) (by omega)
      omega
/-- room that is left behind texts and marks: it was enough for each of them -/
theorem roomF_each : ∀ (l : List Int) (room : Int), (∀ x, x ∈ l → 0 ≤ x) → 0 ≤ roomF room l → (∀ x, x ∈ l → x ≤ room) ∧ roomF room l ≤ room
  | [], room, _, h => ⟨by simp, Int.le_refl _⟩
  | x :: r, room, hl, h => by
    have hx := hl x (by simp)
    unfold roomF at h ⊢
    split
    · rename_i hc; rw [if_pos hc] at h; omega
    · rename_i hc
      rw [if_neg hc] at h
      obtain ⟨h1, h2⟩ := roomF_each r (room - x) (fun y hy => hl y (by simp [hy])) h
      refine ⟨fun y hy => ?_, by omega⟩
      rcases List.mem_cons.1 hy with rfl | hy
      · omega
      · have := h1 y hy; omega

def valI (v : Val) : List Int := [1, (v.num.length : Int), (v.cat.length : Int)]
theorem valI_nn (v : Val) : ∀ x, x ∈ valI v → 0 ≤ x := by intro x hx; simp [valI] at hx; omega
def valuesF (room : Int) : List Val → Int
  | [] => room
  | v :: r => if 0 ≤ room then valuesF (roomF room (valI v)) r else room
theorem r_values (room : Int) (vs : List Val) (hr : -9223372036854775808 ≤ room ∧ room ≤ 9223372036854775807) (hlen : vs.length ≤ 9223372036854775807) : PCall Tryd.prog 45 [.int .i64 room, .sl none 3 (encVs vs) []] (· = .int .i64 (valuesF room vs)) := by
  refine pcall_vc c_bkvalues (by simp [c_bkvalues]) fun x K hK => ?_
  simp [c_bkvalues]
  refine vc_loop .wide (fun y : Nat × Int => ⟨32, [(5, .p (.int .i64 (y.1 : Int))), (0, .p (.int .i64 y.2)), (1, .p (.sl none 3 (encVs vs) []))], []⟩)
    (fun y => y.1 ≤ vs.length ∧ -9223372036854775808 ≤ y.2 ∧ y.2 ≤ 9223372036854775807 ∧ valuesF y.2 (vs.drop y.1) = valuesF room vs) (fun y => vs.length - y.1) (0, room) ⟨by simp, by simp only; omega, by simp only; omega, rfl⟩ (sub_iff (by simp)) ?_
  rintro ⟨i, rm⟩ ⟨h1, h2, h3, h4⟩ Q k1 k2
  simp only at h1 h2 h3 h4
  by_cases hi : i = vs.length
  · subst hi
    simp [valuesF] at h4
    simp
    refine k2 _ _ (by simp) ?_
    simp
    exact hK _ (by rw [h4])
  · have hlt : i < vs.length := by omega
    have hw : IntKind.i64.wrap ((i : Int) + 1) = (i : Int) + 1 := wrap_i64 (by omega)
    rw [List.drop_eq_getElem_cons hlt, valuesF] at h4
    by_cases c1 : 0 ≤ rm
    · rw [if_pos c1] at h4
      have hroom := r_room rm (valI vs[i]) ⟨by omega, h3⟩ (valI_nn _) (by simp [valI])
      have hle := roomF_le (valI vs[i]) rm (valI_nn _) h2
      simp [hlt, c1]
      refine vc_draw .wide rfl ?_
      simp [hlt, encV]
      refine dcall_pz [.int .i64 rm, .sl none 1 (encI (valI vs[i])) []] _ hroom (by simp; rfl) (by simp [encI, valI]) ?_
      simp [hw]
      exact k1 _ (i + 1, roomF rm (valI vs[i])) ⟨by omega, by simp only; omega, by simp only; omega, h4⟩ (by simp only; omega) (sub_iff (by simp))
    · rw [if_neg c1] at h4
      simp [hlt, c1]
      refine k2 _ _ (by simp) ?_
      simp
      exact hK _ (by rw [← h4])
theorem valuesF_each : ∀ (vs : List Val) (room : Int), 0 ≤ valuesF room vs → (∀ v, v ∈ vs → (v.num.length : Int) ≤ room ∧ (v.cat.length : Int) ≤ room) ∧ valuesF room vs ≤ room
  | [], room, h => ⟨by simp, Int.le_refl _⟩
  | v :: r, room, h => by
    unfold valuesF at h ⊢
    by_cases c : 0 ≤ room
    · rw [if_pos c] at h ⊢
      obtain ⟨h1, h2⟩ := valuesF_each r _ h
      have hn : 0 ≤ roomF room (valI v) := by omega
      obtain ⟨h3, h4⟩ := roomF_each (valI v) room (valI_nn v) hn
      refine ⟨fun w hw => ?_, by omega⟩
      rcases List.mem_cons.1 hw with rfl | hw
      · exact ⟨h3 _ (by simp [valI]), h3 _ (by simp [valI])⟩
      · have := h1 w hw; omega
    · rw [if_neg c] at h; omega

def valuesB (vs : List Val) : Bool := decide (vs.length ≤ 50) && decide (0 ≤ valuesF 4000 vs)
theorem valuesB_each {vs : List Val} (h : valuesB vs = true) : vs.length ≤ 50 ∧ ∀ v, v ∈ vs → v.num.length ≤ 4000 ∧ v.cat.length ≤ 4000 := by
  simp only [valuesB, Bool.and_eq_true, decide_eq_true_eq] at h
  refine ⟨h.1, fun v hv => ?_⟩
  have := (valuesF_each vs 4000 h.2).1 v hv
  omega
theorem r_ValuesX (vs : List Val) : PCall Tryd.prog 17 [.sl none 3 (encVs vs) []] (· = .bool (valuesB vs)) := by
  refine pcall_vc c_bkValues (by simp [c_bkValues]) fun x K hK => ?_
  by_cases h : vs.length ≤ 50
  · simp [c_bkValues, h, show (vs.length : Int) ≤ 50 by omega]
    refine oks_callz [] .wide [.int .i64 4000, .sl none 3 (encVs vs) []] (r_values 4000 vs (by omega) (by omega)) (by simp) (by simp; rfl) (by simp) ?_
    rintro _ rfl
    refine oks_vc .wide ?_
    simp
    exact hK _ (by simp [valuesB, h])
  · simp [c_bkValues, h, show ¬ (vs.length : Int) ≤ 50 by omega]
    refine oks_skipc .wide (by simp) (oks_vc .wide ?_)
    simp
    exact hK _ (by simp [valuesB, h])
def rowB (vs : List Val) : Bool := vs.all (fun v => decide (v.num.length ≤ 200)) && valuesB vs
theorem rowB_each {vs : List Val} (h : rowB vs = true) : vs.length ≤ 50 ∧ ∀ v, v ∈ vs → v.num.length ≤ 200 ∧ v.cat.length ≤ 4000 := by
  simp only [rowB, Bool.and_eq_true, List.all_eq_true, decide_eq_true_eq] at h
  obtain ⟨h1, h2⟩ := valuesB_each h.2
  exact ⟨h1, fun v hv => ⟨h.1 v hv, (h2 v hv).2⟩⟩
theorem r_rowX (vs : List Val) : PCall Tryd.prog 7 [.sl none 3 (encVs vs) []] (· = .bool (rowB vs)) := by
  refine PCall.lens fun hlen => ?_
  have hlen : vs.length ≤ 9223372036854775807 := by simpa [PV.lenok] using hlen
  refine pcall_vc c_bkrow (by simp [c_bkrow]) fun x K hK => ?_
  simp [c_bkrow]
  refine vc_loop .wide (fun i : Nat => ⟨19, [(3, .p (.int .i64 (i : Int))), (0, .p (.sl none 3 (encVs vs) []))], []⟩)
    (fun i => i ≤ vs.length ∧ vs.all (fun v => decide (v.num.length ≤ 200)) = (vs.drop i).all (fun v => decide (v.num.length ≤ 200))) (fun i => vs.length - i) 0 ⟨by simp, by simp⟩ (sub_iff (by simp)) ?_
  rintro i ⟨h1, h2⟩ Q k1 k2
  by_cases hi : i = vs.length
  · subst hi
    rw [List.drop_length] at h2
    simp
    refine k2 _ _ (by simp) ?_
    simp
    refine oks_callz [] .wide [.sl none 3 (encVs vs) []] (r_ValuesX vs) (by simp) (by simp; rfl) (by simp) ?_
    rintro _ rfl
    refine oks_vc .wide ?_
    simp
    exact hK _ (by rw [rowB, h2]; simp)
  · have hlt : i < vs.length := by omega
    have hw : IntKind.i64.wrap ((i : Int) + 1) = (i : Int) + 1 := wrap_i64 (by omega)
    rw [List.drop_eq_getElem_cons hlt, List.all_cons] at h2
    by_cases hc : vs[i].num.length ≤ 200
    · simp [hlt, encV, show ¬ (200 : Int) < (vs[i].num.length : Int) by omega, hw]
      refine k1 _ (i + 1) ⟨by omega, ?_⟩ (by omega) (sub_iff (by simp))
      rw [h2]; simp [hc]
    · simp [hlt, encV, show (200 : Int) < (vs[i].num.length : Int) by omega]
      refine k2 _ _ (by simp) ?_
      simp
      exact hK _ (by rw [rowB, h2]; simp [hc])
theorem r_row (vs : List Val) : PCall Tryd.prog 7 [.sl none 3 (encVs vs) []] (fun r => ∃ b, r = .bool b ∧ (b = true → vs.length ≤ 50 ∧ ∀ v, v ∈ vs → v.num.length ≤ 200)) :=
  PCall.mono (r_rowX vs) fun r hr => ⟨_, hr, fun h => ⟨(rowB_each h).1, fun v hv => ((rowB_each h).2 v hv).1⟩⟩
end Go.Dl
set_option linter.unusedVariables false
set_option linter.unusedSimpArgs false
set_option maxRecDepth 1000000
namespace Go.Dl
open Go.Proofs

theorem rOk_head (s : List UInt8) (h : rOk s = true) : s ≠ [63] ∧ (cutPre 58 s).2 = false := by
  have hA : isNum (rpA s) = true := by
    simp only [rOk, Bool.and_eq_true] at h
    exact h.1.1.1
  cases s with
  | nil => simp [cutPre]
  | cons c r =>
    refine ⟨?_, ?_⟩
    · rintro e
      rw [e] at hA
      revert hA; decide
    · by_cases hc : c = 58
      · subst hc
        exfalso
        have e : rpA (58 :: r) = 58 :: (cutC 47 r).1 := by
          simp [rpA, cutPre, cutC]
        rw [e] at hA
        simp [isNum, isDig] at hA
      · simp [cutPre, hc]
theorem vparse_num (s : List UInt8) (h : rOk s = true) : vparseP s = .tup [.agg (encV ⟨1, s, []⟩), .int .i64 0] := by
  obtain ⟨h1, h2⟩ := rOk_head s h
  unfold vparseP
  rw [if_neg h1, if_neg (by rw [h2]; decide), if_pos h]
/-- what is told of a value that can be is read as it was -/
theorem vparse_text (v : Val) (h : validP v = true) : vparseP (textP v) = .tup [.agg (encV v), .int .i64 0] := by
  obtain ⟨k, n, c⟩ := v
  by_cases h0 : k = 0
  · subst h0
    simp [validP] at h
    obtain ⟨rfl, rfl⟩ := h
    rfl
  · by_cases h2 : k = 2
    · subst h2
      have h' := h
      simp [validP] at h
      obtain ⟨rfl, hc⟩ := h
      have e : textP ⟨2, [], c⟩ = 58 :: c := by simp [textP, h']
      rw [e]
      unfold vparseP
      rw [if_neg (by simp), if_pos (by simp [cutPre]), if_neg (by simp [cutPre]; omega)]
      simp [cutPre]
    · have h' := h
      simp [validP, h0, h2, numOk] at h
      obtain ⟨⟨rfl, rfl⟩, hr⟩ := h
      have e : textP ⟨1, n, []⟩ = n := by simp [textP, h']
      rw [e]
      exact vparse_num n hr

set_option maxHeartbeats 4000000 in
theorem t_vback (v : Val) (s : List UInt8) : PCall Tryd.prog 4 [.agg (encV v), .str s] (· = .bool true) := by
  refine pcall_vcz c_vback (by simp [c_vback]) fun x K hK => ?_
  have yes : K (.bool true) := hK _ _ rfl (by simp)
  simp [c_vback, encV]
  refine oks_callz [13] .wide [.sl none 3 (encVs [v]) []] (r_row [v]) (by simp) (by simp; rfl) (by simp [encVs, encV]) ?_
  rintro _ ⟨b1, rfl, hb1⟩
  refine oks_vc .wide ?_
  cases b1 with
  | false =>
    simp
    refine oks_skipc .wide (by simp) (oks_vc .wide ?_)
    simp
    refine oks_callz [] .wide [] t_alive12 (by simp) (by simp; rfl) (by simp) ?_
    rintro _ rfl
    refine oks_vc .wide ?_
    simp
    exact yes
  | true =>
    have hv2 : v.num.length ≤ 200 := (hb1 rfl).2 v (by simp)
    by_cases hl : 300 < s.length
    · simp [show (300 : Int) < (s.length : Int) by omega]
      refine oks_skipc .wide (by simp) (oks_vc .wide ?_)
      simp
      refine oks_callz [] .wide [] t_alive12 (by simp) (by simp; rfl) (by simp) ?_
      rintro _ rfl
      refine oks_vc .wide ?_
      simp
      exact yes
    · simp [show ¬ (300 : Int) < (s.length : Int) by omega, show (s.length : Int) ≤ 300 by omega]
      refine oks_callz [] .wide [] t_alive12 (by simp) (by simp; rfl) (by simp) ?_
      rintro _ rfl
      refine oks_vc .wide ?_
      simp
      refine oks_callz [] .wide [.str s] (t_rparse s (by omega)) (by simp) (by simp; rfl) (by simp) ?_
      rintro _ rfl
      refine oks_vc .wide ?_
      by_cases hr : rOk s = true
      · have hrt : ratT (rval s).1 (rval s).2.1 (rval s).2.2 = s := by
          have := hr
          simp only [rOk, Bool.and_eq_true, decide_eq_true_eq] at this
          exact this.2.1
        have hrl := rval_len s hr
        have hval : validP ⟨1, s, []⟩ = true := by simp [validP, numOk, hr]
        rw [rparseP, if_pos hr]
        simp [encR, encRat]
        refine oks_callz [] .wide [encRat (rval s).1 (rval s).2.1 (rval s).2.2] (t_vof (rval s).1 (rval s).2.1 (rval s).2.2 (by omega) (by omega)) (by simp) (by simp; rfl) (by simp [encRat]) ?_
        rintro _ rfl
        refine oks_vc .wide ?_
        rw [hrt]
        simp [encV]
        refine oks_callz [] .wide [.str s] (t_vparse s (by omega)) (by simp) (by simp; rfl) (by simp) ?_
        rintro _ rfl
        refine oks_vc .wide ?_
        rw [vparse_num s hr]
        simp [encV]
        refine oks_callz [] .wide [.agg (encV ⟨1, s, []⟩)] (t_valid ⟨1, s, []⟩ (show s.length ≤ 100000 by omega)) (by simp) (by simp; rfl) (by simp [encV]) ?_
        rintro _ rfl
        refine oks_vc .wide ?_
        simp [hval]
        refine oks_callz [] .wide [.agg (encV v)] (t_valid v (by omega)) (by simp) (by simp; rfl) (by simp [encV]) ?_
        rintro _ rfl
        refine oks_vc .wide ?_
        by_cases hv : validP v = true
        · simp [hv]
          refine oks_callz [] .wide [.agg (encV v)] (t_vtext v (by omega)) (by simp) (by simp; rfl) (by simp [encV]) ?_
          rintro _ rfl
          refine oks_vc .wide ?_
          simp
          have htl : (textP v).length ≤ 100000 := by
            have h' := hv
            unfold textP
            rw [if_pos hv]
            split
            · simp
            · split
              · rename_i h0 h2
                simp [validP, h2] at h'
                simp
                omega
              · omega
          refine oks_callz [] .wide [.str (textP v)] (t_vparse (textP v) htl) (by simp) (by simp; rfl) (by simp) ?_
          rintro _ rfl
          refine oks_vc .wide ?_
          rw [vparse_text v hv]
          simp [encV]
          exact yes
        · simp [hv]
          refine oks_callz [] .wide [.agg (encV v)] (t_vtext v (by omega)) (by simp) (by simp; rfl) (by simp [encV]) ?_
          rintro _ rfl
          refine oks_vc .wide ?_
          simp [textP, hv]
          exact yes
      · rw [rparseP, if_neg hr]
        simp [encRat]
        refine oks_callz [] .wide [.agg (encV v)] (t_valid v (by omega)) (by simp) (by simp; rfl) (by simp [encV]) ?_
        rintro _ rfl
        refine oks_vc .wide ?_
        by_cases hv : validP v = true
        · simp [hv]
          refine oks_callz [] .wide [.agg (encV v)] (t_vtext v (by omega)) (by simp) (by simp; rfl) (by simp [encV]) ?_
          rintro _ rfl
          refine oks_vc .wide ?_
          simp
          have htl : (textP v).length ≤ 100000 := by
            have h' := hv
            unfold textP
            rw [if_pos hv]
            split
            · simp
            · split
              · rename_i h0 h2
                simp [validP, h2] at h'
                simp
                omega
              · omega
          refine oks_callz [] .wide [.str (textP v)] (t_vparse (textP v) htl) (by simp) (by simp; rfl) (by simp) ?_
          rintro _ rfl
          refine oks_vc .wide ?_
          rw [vparse_text v hv]
          simp [encV]
          exact yes
        · simp [hv]
          refine oks_callz [] .wide [.agg (encV v)] (t_vtext v (by omega)) (by simp) (by simp; rfl) (by simp [encV]) ?_
          rintro _ rfl
          refine oks_vc .wide ?_
          simp [textP, hv]
          exact yes
end Go.Dl
set_option linter.unusedVariables false
set_option linter.unusedSimpArgs false
set_option maxRecDepth 1000000
namespace Go.Dl
open Go.Proofs

theorem norm_pD (n : Nat) : (pD n).norm = pD n := rfl
theorem decval_litA (p : Parts) : decval (litA p) = decval p.all := decval_zeros p.all
theorem rmake_text (neg : Bool) (n d : Nat) (hd : d ≠ 0) (hn : (limbsD n).length ≤ 100000) (hd' : (limbsD d).length ≤ 100000) :
    PCall Tryd.prog 21 [rmakeP neg n d] (· = .str (ratT' (lowN neg n d))) := by
  have := r_rattext (neg && decide (n / Nat.gcd n d ≠ 0)) (n / Nat.gcd n d) (d / Nat.gcd n d) (Nat.le_trans (limbs_monoD (Nat.div_le_self _ _)) hn) (Nat.le_trans (limbs_monoD (Nat.div_le_self _ _)) hd')
  rw [rt_eq neg n d hd] at this
  exact this
def litN (X : Int) (n : Nat) : Nat := if 0 ≤ X then n * 10 ^ X.natAbs else n
def litD (X : Int) : Nat := if 0 ≤ X then 1 else 10 ^ X.natAbs
theorem litW_eq (X : Int) (neg : Bool) (n : Nat) : litW X neg n = rmakeP neg (litN X n) (litD X) := by
  unfold litW litN litD; split <;> rfl
theorem litD_pos (X : Int) : litD X ≠ 0 := by
  unfold litD; split
  · decide
  · have := Nat.pow_pos (n := X.natAbs) (show 0 < 10 by decide); omega
theorem litND_len (X : Int) (n : Nat) (hX : X.natAbs ≤ 2000) (hn : (limbsD n).length ≤ 2000) : (limbsD (litN X n)).length ≤ 100000 ∧ (limbsD (litD X)).length ≤ 100000 := by
  have h1 := pow10_lenD X.natAbs
  have h2 := mul_lenD n (10 ^ X.natAbs)
  have h3 := pow10_lenD 0
  unfold litN litD
  split
  · exact ⟨by omega, Nat.le_trans h3 (by decide)⟩
  · exact ⟨by omega, by omega⟩
theorem litA_nil (p : Parts) (h : litA p = []) : decval p.all = 0 := by rw [← decval_litA, h]; rfl
theorem litV_eq (p : Parts) (h : litA p ≠ []) : litV p = lowN p.neg (litN (litX p) (decval p.all)) (litD (litX p)) := by
  unfold litV litN litD
  rw [decval_litA]
  by_cases hx : litX p < 0
  · rw [if_pos hx, if_neg (by omega), if_neg (by omega)]
    congr 2; omega
  · rw [if_neg hx, if_pos (by omega), if_pos (by omega)]
    congr 3; omega
theorem litV_text (p : Parts) (hd : p.all.all isDig = true) (h0 : p.all ≠ []) : ratT' (if litA p = [] then (false, 0, 0) else litV p) = ratT' (lowN p.neg (litN (litX p) (decval p.all)) (litD (litX p))) := by
  by_cases h : litA p = []
  · rw [if_pos h, litA_nil p h]
    have : litN (litX p) 0 = 0 := by unfold litN; split <;> simp
    rw [this]
    simp [lowN]
  · rw [if_neg h, litV_eq p h]

set_option maxHeartbeats 4000000 in
theorem r_r12parse (s : List UInt8) (hs : s.length ≤ 1000) : PCall Tryd.prog 22 [.str s] (· = vparseP s) := by
  refine pcall_okz c_r12parse (by simp [c_r12parse]) fun x K hK => ?_
  refine ok_fst .wide ?_
  simp [c_r12parse]
  by_cases hq : s = [63]
  · refine ok_fst .wide ?_
    simp [hq]
    exact hK _ _ rfl (by simp [vparseP, hq, encV, zeroV])
  · refine ok_fst .wide ?_
    simp [hq]
    refine ok_mid (fun _ : Unit => (cutPre 58 s).2 = false) (fun _ => ⟨47, [(0, .p (.str s)), (3, .p (.int .i64 0)), (2, .ptr 2 3 0 0)], [(2, ⟨false, 3, .p [[.int .i64 0, .str [], .str []]]⟩)]⟩) ?_ ?_
    · rintro _ hc
      refine ok_fst .wide ?_
      simp
      refine oks_callz [] .wide [.str s] (r_ratparse s (by omega)) (by simp) (by simp; rfl) (by simp) ?_
      rintro _ rfl
      refine oks_vc .wide ?_
      by_cases hr : rOk s = true
      · simp [rratparseP, hr, rmakeP, pD]
        refine ok_fst .wide ?_
        simp
        exact hK _ _ rfl (by simp [vparseP, hq, hc, hr, encV])
      · simp [rratparseP, hr, errRR, encRR, pD]
        refine ok_fst .wide ?_
        simp
        have hvp : vparseP s = litVP (parts s) := by simp [vparseP, hq, hc, hr]
        rw [hvp] at hK
        have hlit := r_lit s hs
        rw [rlit_eq] at hlit
        have hpl := parts_len s
        generalize parts s = p at *
        refine ok_fst .wide ?_
        simp
        refine oks_callz [] .wide [.str s] hlit (by simp) (by simp; rfl) (by simp) ?_
        rintro _ rfl
        refine oks_vc .wide ?_
        by_cases hok : partsOk p = true
        · have hok' := hok
          simp only [partsOk, Bool.and_eq_true, decide_eq_true_eq] at hok'
          obtain ⟨⟨⟨hall0, _⟩, halld⟩, hexpd⟩ := hok'
          obtain ⟨hcap1, hcap2⟩ := dsml_cap p.exp hexpd
          by_cases hb : p.all.length ≤ 400 ∧ capE p.exp ≤ 400
          · have hsm : (dsml p.exp).2 = true := by rw [hcap1]; simpa using hb.2
            have hX : (if p.expNeg then -(capE p.exp : Int) else (capE p.exp : Int)) - (p.behind : Int) = litX p := by
              unfold litX; rw [hcap2 hsm]
            have hXb : (litX p).natAbs ≤ 2000 := by rw [← hX]; split <;> omega
            have hnl : (limbsD (decval p.all)).length ≤ 2000 := by
              have h1 := decval_lt p.all halld
              exact Nat.le_trans (lenD_le _ p.all.length (Nat.lt_of_lt_of_le h1 (Nat.pow_le_pow_left (by decide) _))) (by omega)
            obtain ⟨l1, l2⟩ := litND_len (litX p) (decval p.all) hXb hnl
            have htx := rmake_text p.neg (litN (litX p) (decval p.all)) (litD (litX p)) (litD_pos _) l1 l2
            rw [rlitP, if_pos hok, litG, if_pos hb, hX, litW_eq]
            have hres : litVP p = .tup [.agg (encV ⟨1, ratT' (lowN p.neg (litN (litX p) (decval p.all)) (litD (litX p))), []⟩), .int .i64 0] := by
              unfold litVP
              rw [if_pos hok, if_pos (by simp [hsm, hb.1]), litV_text p halld hall0]
            rw [hres] at hK
            generalize litN (litX p) (decval p.all) = N at *
            generalize litD (litX p) = DD at *
            simp [rmakeP, pD]
            refine ok_fst .wide ?_
            simp
            refine vc_ok .wide _ ?_
            simp
            refine oks_callz [] .wide [rmakeP p.neg N DD] htx (by simp) (by simp; rfl) (by simp [rmakeP, pD]) ?_
            rintro _ rfl
            refine oks_vc .wide ?_
            simp
            exact hK _ _ rfl (by simp [encV])
          · have hnb : ¬ ((dsml p.exp).2 && decide (p.all.length ≤ 400)) = true := by
              rw [hcap1]; simp only [Bool.and_eq_true, decide_eq_true_eq]; exact fun h => hb ⟨h.2, h.1⟩
            rw [rlitP, if_pos hok, litG, if_neg hb]
            simp [errRR, encRR, pD]
            refine ok_fst .wide ?_
            simp
            exact hK _ _ rfl (by simp only [litVP, if_pos hok, if_neg hnb]; simp [encV, zeroV])
        · rw [rlitP, if_neg hok]
          simp [errRR, encRR, pD]
          refine ok_fst .wide ?_
          simp
          exact hK _ _ rfl (by simp [litVP, hok, encV, zeroV])
    · refine vc_ok .wide _ ?_
      rcases s with _ | ⟨c, r⟩
      · simp
        exact AtC.mk () (by simp [cutPre]) (sub_iff (by simp))
      · by_cases hc : c = 58
        · have hcn : (c.toNat : Int) = 58 := by rw [hc]; rfl
          have e1 : (0 : Int) < (r.length : Int) + 1 := by omega
          by_cases hl : 60 < r.length
          · simp [hcn, e1, show (61 : Int) < (r.length : Int) + 1 by omega]
            exact hK _ _ rfl (by rw [vparseP, if_neg hq]; simp [cutPre, hc, hl, encV, zeroV])
          · simp [hcn, e1, show ¬ (61 : Int) < (r.length : Int) + 1 by omega]
            exact hK _ _ rfl (by rw [vparseP, if_neg hq]; simp [cutPre, hc, hl, encV, zeroV])
        · have hcn : ¬ (c.toNat : Int) = 58 := fun h => hc (UInt8.toNat_inj.1 (by show c.toNat = 58; omega))
          have e1 : (0 : Int) < (r.length : Int) + 1 := by omega
          simp [hcn, e1]
          exact AtC.mk () (by simp [cutPre, hc]) (sub_iff (by simp))
end Go.Dl
set_option linter.unusedVariables false
set_option linter.unusedSimpArgs false
set_option maxRecDepth 1000000
namespace Go.Dl
open Go.Proofs

theorem vparse_shape (s : List UInt8) : ∃ (a : Val) (c : Int), vparseP s = .tup [.agg (encV a), .int .i64 c] := by
  unfold vparseP litVP
  repeat' split
  all_goals exact ⟨_, _, rfl⟩
theorem rOk_text (s : List UInt8) (h : rOk s = true) : ratT (rval s).1 (rval s).2.1 (rval s).2.2 = s ∧ isNum (rpA s) = true ∧ isNum (rpB s) = true ∧ decval (rpB s) ≠ 0 ∧ (rpA s).length ≤ 1200 ∧ (rpB s).length ≤ 1200 := by
  simp only [rOk, Bool.and_eq_true, decide_eq_true_eq] at h
  exact ⟨h.2.1, h.1.1.1, h.1.1.2, h.1.2, h.2.2.1, h.2.2.2⟩
/-- the reference's text of a fraction that is read is the text -/
theorem rnum_text (s : List UInt8) (h : rOk s = true) : PCall Tryd.prog 21 [rnumR s] (· = .str s) := by
  obtain ⟨h1, h2, h3, h4, h5, h6⟩ := rOk_text s h
  have l2 := limbs_decvalD _ h2
  have l3 := limbs_decvalD _ h3
  have := rmake_text (rpNeg s) (decval (rpA s)) (decval (rpB s)) h4 (by omega) (by omega)
  rw [show ratT' (lowN (rpNeg s) (decval (rpA s)) (decval (rpB s))) = s from h1] at this
  rw [rnumR, if_pos h]
  exact this
theorem rnumR_shape (s : List UInt8) : ∃ b m n, rnumR s = .agg [.bool b, pD m, pD n] := by
  unfold rnumR
  split
  · exact ⟨_, _, _, rfl⟩
  · exact ⟨_, _, _, rfl⟩

set_option maxHeartbeats 4000000 in
theorem t_vtells (v w : Val) (s : List UInt8) : PCall Tryd.prog 5 [.agg (encV v), .agg (encV w), .str s] (· = .bool true) := by
  refine pcall_okz c_vtells (by simp [c_vtells]) fun x K hK => ?_
  have yes : K (.bool true) := hK _ _ rfl (by simp)
  refine ok_fst .wide ?_
  simp [c_vtells, encV]
  refine ok_mid (fun _ : Unit => valuesB [v, w] = true ∧ s.length ≤ 400) (fun _ => ⟨110, [(6, .p (.bool false)), (4, .ptr 4 3 0 0), (3, .ptr 3 3 0 0), (2, .p (.str s))], [(4, ⟨false, 3, .p [encV w]⟩), (3, ⟨false, 3, .p [encV v]⟩)]⟩) ?_ ?_
  · rintro _ ⟨hv, hs⟩
    obtain ⟨_, hvl⟩ := valuesB_each hv
    have hv4 : v.num.length ≤ 4000 := (hvl v (by simp)).1
    have hw4 : w.num.length ≤ 4000 := (hvl w (by simp)).1
    refine ok_fst .wide ?_
    simp [encV]
    refine oks_callz [] .wide [.agg (encV v)] (t_vnum v (by omega)) (by simp) (by simp; rfl) (by simp [encV]) ?_
    rintro _ rfl
    refine oks_vc .wide ?_
    simp [encR, encRat]
    refine ok_fst .wide ?_
    obtain ⟨rb, rm, rn, hrs⟩ := rnumR_shape v.num
    have hrn := r_num v (by omega)
    rw [hrs] at hrn
    simp [encV]
    refine oks_callz [] .wide [.agg (encV v)] hrn (by simp) (by simp; rfl) (by simp [encV]) ?_
    rintro _ rfl
    refine oks_vc .wide ?_
    simp [pD]
    refine ok_mid (fun _ : Unit => True) (fun _ => ⟨110, [(6, .p (.bool false)), (4, .ptr 4 3 0 0), (3, .ptr 3 3 0 0), (2, .p (.str s))], [(4, ⟨false, 3, .p [encV w]⟩), (3, ⟨false, 3, .p [encV v]⟩)]⟩) ?_ ?_
    · rintro _ _
      obtain ⟨a, c, hac⟩ := vparse_shape s
      have hp1 := t_vparse s (by omega)
      have hp2 := r_r12parse s (by omega)
      rw [hac] at hp1 hp2
      have hsv : sameV v w = (v.kind == w.kind && (v.num == w.num && v.cat == w.cat)) := by by_cases h1 : v.kind = w.kind <;> by_cases h2 : v.num = w.num <;> by_cases h3 : v.cat = w.cat <;> simp [sameV, h1, h2, h3]
      have hva := t_valid v (by omega)
      have hvb := r_valid v (by omega)
      rw [validR_eq] at hvb
      refine ok_fst .wide ?_
      simp [encV]
      refine oks_callz [] .wide [.str s] hp1 (by simp) (by simp; rfl) (by simp) ?_
      rintro _ rfl
      refine oks_vc .wide ?_
      simp [encV]
      refine ok_fst .wide ?_
      simp [encV]
      refine oks_callz [] .wide [.str s] hp2 (by simp) (by simp; rfl) (by simp) ?_
      rintro _ rfl
      refine oks_vc .wide ?_
      simp [encV]
      refine vc_ok .wide _ ?_
      simp [encV]
      refine vc_draw .wide rfl ?_
      simp
      refine dcall_pz [.agg (encV v)] _ hva (by simp; rfl) (by simp [encV]) ?_
      simp
      refine dcall_pz [.agg (encV v)] _ hvb (by simp; rfl) (by simp [encV]) ?_
      simp
      refine dcall_pz [.agg (encV v)] _ (t_vtext v (by omega)) (by simp; rfl) (by simp [encV]) ?_
      simp
      refine dcall_pz [.agg (encV v)] _ (r_vtext v (by omega)) (by simp; rfl) (by simp [encV]) ?_
      simp
      refine dcall_pz [.agg (encV v), .agg (encV w)] _ (t_vsame v w) (by simp; rfl) (by simp [encV]) ?_
      simp [hsv]
      refine dcall_pz [.str s] _ (t_vcat s (by omega)) (by simp; rfl) (by simp) ?_
      simp [encV]
      exact yes
    · refine vc_ok .wide _ ?_
      by_cases hn : numOk v = true
      · have hr : rOk v.num = true := by simp only [numOk, Bool.and_eq_true] at hn; exact hn.2
        have hnv : numV v = rval v.num := by simp [numV, hn]
        have hl := rval_len v.num hr
        have htx := t_rtext (rval v.num).1 (rval v.num).2.1 (rval v.num).2.2 (by omega) (by omega)
        rw [(rOk_text v.num hr).1] at htx
        have hrt := rnum_text v.num hr
        rw [hrs] at hrt
        simp [hn, hnv]
        refine vc_draw .wide rfl ?_
        simp
        refine dcall_pz [encRat (rval v.num).1 (rval v.num).2.1 (rval v.num).2.2] _ htx (by simp; rfl) (by simp [encRat]) ?_
        simp
        refine dcall_pz [.agg [.bool rb, pD rm, pD rn]] _ hrt (by simp; rfl) (by simp [pD]) ?_
        simp
        exact AtC.mk () trivial (sub_iff (by simp [encV]))
      · have hnv : numV v = (false, 0, 0) := by simp [numV, hn]
        have htx := t_rtext false 0 0 (by simp [limbs_zero]) (by simp [limbs_zero])
        have h0 : ratT false 0 0 = [48] := by simp [ratT, den1, decT_lt]
        rw [h0] at htx
        simp [hn, hnv]
        refine vc_draw .wide rfl ?_
        simp
        refine dcall_pz [encRat false 0 0] _ htx (by simp; rfl) (by simp [encRat]) ?_
        simp
        exact AtC.mk () trivial (sub_iff (by simp [encV]))
  · refine vc_ok .wide _ ?_
    simp
    refine oks_callz [17] .wide [.sl none 3 (encVs [v, w]) []] (r_ValuesX [v, w]) (by simp) (by simp; rfl) (by simp [encVs, encV]) ?_
    rintro _ rfl
    refine oks_vc .wide ?_
    cases hv : valuesB [v, w] with
    | false =>
      simp
      refine oks_skipc .wide (by simp) (oks_vc .wide ?_)
      simp
      refine oks_callz [] .wide [] t_alive12 (by simp) (by simp; rfl) (by simp) ?_
      rintro _ rfl
      refine oks_vc .wide ?_
      simp
      exact yes
    | true =>
      by_cases hs : s.length ≤ 400
      · simp [show ¬ (400 : Int) < (s.length : Int) by omega, show (s.length : Int) ≤ 400 by omega]
        refine oks_callz [] .wide [] t_alive12 (by simp) (by simp; rfl) (by simp) ?_
        rintro _ rfl
        refine oks_vc .wide ?_
        simp
        exact AtC.mk () hs (sub_iff (by simp [encV]))
      · simp [show (400 : Int) < (s.length : Int) by omega]
        refine oks_skipc .wide (by simp) (oks_vc .wide ?_)
        simp
        refine oks_callz [] .wide [] t_alive12 (by simp) (by simp; rfl) (by simp) ?_
        rintro _ rfl
        refine oks_vc .wide ?_
        simp
        exact yes
end Go.Dl
