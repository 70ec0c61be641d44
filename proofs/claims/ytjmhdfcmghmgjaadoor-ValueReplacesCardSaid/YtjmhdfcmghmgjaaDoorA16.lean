/- Contract of dec.Parse. Contracts of value.Parse and of the law's first call. Contract of the law's first call (hornbeamlaw12.alive). Contracts of value.Same and of the reference's Text of a value. Cutting a code in two: what is ahead of the cut ends in a state of a family, from each of which what is behind goes on. -/
import Derived.Test.YtjmhdfcmghmgjaaDoorA14
import Derived.Test.YtjmhdfcmghmgjaaDoorA15
import Derived.Test.YtjmhdfcmghmgjaaDoorA13
import Derived.Test.YtjmhdfcmghmgjaaDoorA8
set_option linter.unusedVariables false
set_option linter.unusedSimpArgs false
set_option maxRecDepth 1000000
namespace Go.Dl
open Go.Proofs

theorem parts_len (s : List UInt8) : (parts s).exp.length ≤ s.length + 1 ∧ (parts s).all.length ≤ 2 * s.length ∧ (parts s).behind ≤ (parts s).all.length := by
  have l1 := dsg_len s
  have l2 := cutC_len 46 ((dsg s).1.take (cutAt (dsg s).1))
  rw [List.length_take] at l2
  have l3 := dsg_len ((dsg s).1.drop (cutAt (dsg s).1 + 1))
  rw [List.length_drop] at l3
  refine ⟨?_, ?_, ?_⟩
  · simp only [parts, partsE]
    split
    · omega
    · simp
  · simp only [parts, partsA, List.length_append]; omega
  · simp only [parts, partsA, List.length_append]; omega
theorem limbs_mul_len (x y : Nat) : (limbs (x * y)).length ≤ (limbs x).length + (limbs y).length := by
  cases h : (limbs (x * y)).length with
  | zero => omega
  | succ k =>
    have h1 := limbs_ge _ k h
    have h2 := limbs_lt x
    have h3 := limbs_lt y
    rcases Nat.eq_zero_or_pos (x * y) with h0 | h0
    · rw [h0, limbs_zero] at h; simp at h
    · have hx : 0 < x := Nat.pos_of_mul_pos_right h0
      have h4 : x * y < 4294967296 ^ ((limbs x).length + (limbs y).length) := by
        rw [Nat.pow_add]
        exact Nat.lt_of_lt_of_le (Nat.mul_lt_mul_of_pos_left h3 hx) (Nat.mul_le_mul_right _ (Nat.le_of_lt h2))
      have := (Nat.pow_lt_pow_iff_right (by decide : 1 < 4294967296)).1 (Nat.lt_of_le_of_lt h1 h4)
      omega

/-- the digits of a literal without zeros ahead -/
def litA (p : Parts) : List UInt8 := p.all.dropWhile (· == 48)
/-- the power of 10 that they are multiplied with -/
def litX (p : Parts) : Int := (if p.expNeg then -((dsml p.exp).1 : Int) else ((dsml p.exp).1 : Int)) - (p.behind : Int)
def litV (p : Parts) : Bool × Nat × Nat := if litX p < 0 then lowN p.neg (decval (litA p)) (10 ^ (-litX p).toNat) else lowN p.neg (decval (litA p) * 10 ^ (litX p).toNat) 1
def litR (p : Parts) : PV :=
  if partsOk p then
    if (dsml p.exp).2 && decide (p.all.length ≤ 400) then
      if litA p = [] then .tup [encRat false 0 0, .int .i64 0] else .tup [encR (litV p), .int .i64 0]
    else .tup [encRat false 0 0, .int .i64 2]
  else .tup [encRat false 0 0, .int .i64 3]

theorem isNum_litA (p : Parts) (hd : p.all.all isDig = true) (h : litA p ≠ []) : isNum (litA p) = true := by
  have h1 : (litA p).all isDig = true := by
    rw [List.all_eq_true] at hd ⊢
    exact fun c hc => hd c ((List.dropWhile_sublist _).subset hc)
  unfold isNum
  rw [h1]
  cases e : litA p with
  | nil => exact (h e).elim
  | cons b r =>
    have hb : ¬ (b == 48) = true := by
      have := List.head?_dropWhile_not (fun c : UInt8 => c == 48) p.all
      unfold litA at e
      rw [e] at this
      simpa using this
    have : b.toNat ≠ 48 := fun h => hb (by simpa using UInt8.toNat_inj.1 (show b.toNat = (48 : UInt8).toNat from h))
    simp [this]

set_option maxHeartbeats 8000000 in
theorem t_dparse (s : List UInt8) (hs : s.length ≤ 100000) : PCall Tryd.prog 44 [.str s] (· = litR (parts s)) := by
  refine pcall_vcz c_dparse (by simp [c_dparse]) fun x K hK => ?_
  have hpl := parts_len s
  have hcut := t_dcut s hs
  generalize parts s = p at *
  obtain ⟨neg, all, behind, en, exp⟩ := p
  simp only at hpl
  simp [c_dparse]
  refine oks_callz [] .wide [.str s] hcut (by simp) (by simp; rfl) (by simp) ?_
  rintro _ rfl
  refine oks_vc .wide ?_
  by_cases hok : partsOk ⟨neg, all, behind, en, exp⟩ = true
  · have hok' := hok
    simp only [partsOk, Bool.and_eq_true] at hok'
    obtain ⟨⟨_, hda⟩, hde⟩ := hok'
    simp [encParts, hok]
    refine oks_callz [] .wide [.str exp] (t_small exp (by omega) hde) (by simp) (by simp; rfl) (by simp) ?_
    rintro _ rfl
    refine oks_vc .wide ?_
    cases hsm : (dsml exp).2 with
    | false =>
      simp
      exact hK _ _ rfl (by simp [litR, hok, hsm, encRat, limbs_zero])
    | true =>
      have hsm4 : (dsml exp).1 ≤ 400 := by
        unfold dsml at hsm ⊢
        split at hsm
        · simp at hsm
        · rename_i h; rw [if_neg h]; simpa using hsm
      by_cases hal : all.length ≤ 400
      · simp [hal, show ¬ (400 : Int) < (all.length : Int) by omega, show ¬ 400 < all.length by omega]
        cases en with
        | true =>
          obtain ⟨E, hE⟩ : ∃ E : Int, E = -((dsml exp).1 : Int) - (behind : Int) := ⟨_, rfl⟩
          have hX : litX ⟨neg, all, behind, true, exp⟩ = E := by rw [hE]; simp [litX]
          have wn : IntKind.i64.wrap (-((dsml exp).1 : Int)) = -((dsml exp).1 : Int) := wrap_i64 (by omega)
          have wE : IntKind.i64.wrap (-((dsml exp).1 : Int) - (behind : Int)) = E := by rw [hE]; exact wrap_i64 (by omega)
          simp [wn, wE]
          refine oks_callz [] .wide [.str all, .str [48]] (t_tl all 48 (by decide) (by omega)) (by simp) (by simp; rfl) (by simp) ?_
          rintro _ rfl
          refine oks_vc .wide ?_
          obtain ⟨a, ha⟩ : ∃ a, a = all.dropWhile (· == 48) := ⟨_, rfl⟩
          have hA : litA ⟨neg, all, behind, true, exp⟩ = a := ha.symm
          have hal2 : a.length ≤ 400 := by rw [ha]; exact Nat.le_trans (List.dropWhile_sublist _).length_le hal
          rw [← ha]
          by_cases h0 : a = []
          · simp [h0]
            exact hK _ _ rfl (by simp [litR, hok, hsm, hal, hA, h0, encRat, limbs_zero])
          · have hnum : isNum a = true := by have := isNum_litA ⟨neg, all, behind, true, exp⟩ hda (by rw [hA]; exact h0); rwa [hA] at this
            have hnl := limbs_decval a hnum
            have hpn : PCall Tryd.prog 42 [.str a] (· = .tup [encNat (decval a), .int .i64 0]) := by
              have := t_parseN a (by omega)
              rwa [parseN, if_pos hnum, if_pos (by omega)] at this
            simp [h0]
            refine oks_callz [] .wide [.str a] hpn (by simp) (by simp; rfl) (by simp) ?_
            rintro _ rfl
            refine oks_vc .wide ?_
            simp [encNat]
            refine oks_callz [] .wide [.int .u64 (U 1)] (t_of 1 (by decide)) (by simp) (by simp; rfl) (by simp; rfl) ?_
            rintro _ rfl
            refine oks_vc .wide ?_
            by_cases hneg : E < 0
            · obtain ⟨m, hm⟩ : ∃ m : Nat, -E = (m : Int) := ⟨(-E).toNat, by omega⟩
              have wm : IntKind.i64.wrap (-E) = (m : Int) := by rw [hm]; exact wrap_i64 (by omega)
              have hm8 : m ≤ 1000 := by omega
              have hlp := pow10_len m
              have hV : litV ⟨neg, all, behind, true, exp⟩ = lowN neg (decval a) (10 ^ m) := by
                unfold litV; rw [hX, hA, if_pos hneg, hm, Int.toNat_natCast]
              have hp0 : ¬ (10 ^ m = 0) := by have := Nat.pow_pos (n := m) (show 0 < 10 by decide); omega
              simp [encNat, hneg, wm]
              refine oks_callz [] .wide [.int .i64 (m : Int)] (t_power m hm8) (by simp) (by simp; rfl) (by simp) ?_
              rintro _ rfl
              refine oks_vc .wide ?_
              simp [encNat]
              refine oks_callz [] .wide [.bool neg, encNat (decval a), encNat (10 ^ m)] (t_make neg (decval a) (10 ^ m) (by omega) (by omega)) (by simp) (by simp; rfl) (by simp [encNat]) ?_
              rintro _ rfl
              refine oks_vc .wide ?_
              rw [makeP, if_neg hp0, lowP_eq, ← hV]
              simp [encR, encRat]
              exact hK _ _ rfl (by simp [litR, hok, hsm, hal, hA, h0, encR, encRat])
            · obtain ⟨m, hm⟩ : ∃ m : Nat, E = (m : Int) := ⟨E.toNat, by omega⟩
              have hm8 : m ≤ 1000 := by omega
              have hlp := pow10_len m
              have hlm := limbs_mul_len (decval a) (10 ^ m)
              have h1l : (limbs 1).length ≤ 800000 := by rw [limbs]; simp; rw [limbs]; simp
              have hV : litV ⟨neg, all, behind, true, exp⟩ = lowN neg (decval a * 10 ^ m) 1 := by
                unfold litV; rw [hX, hA, if_neg hneg, hm, Int.toNat_natCast]
              simp [encNat, hm, show ¬ ((m : Int) < 0) by omega]
              refine vc_drawS .wide [(4, 8)] rfl ?_
              simp
              refine dcall_pz [.int .i64 (m : Int)] _ (t_power m hm8) (by simp; rfl) (by simp) ?_
              simp [encNat]
              refine dcall_pz [encNat (decval a), encNat (10 ^ m)] _ (t_mul (decval a) (10 ^ m) (by omega) (by omega)) (by simp; rfl) (by simp [encNat]) ?_
              simp [encNat]
              refine oks_callz [] .wide [.bool neg, encNat (decval a * 10 ^ m), encNat 1] (t_make neg (decval a * 10 ^ m) 1 (by omega) h1l) (by simp) (by simp; rfl) (by simp [encNat]) ?_
              rintro _ rfl
              refine oks_vc .wide ?_
              rw [makeP, if_neg (by decide), lowP_eq, ← hV]
              simp [encR, encRat]
              exact hK _ _ rfl (by simp [litR, hok, hsm, hal, hA, h0, encR, encRat])
        | false =>
          obtain ⟨E, hE⟩ : ∃ E : Int, E = ((dsml exp).1 : Int) - (behind : Int) := ⟨_, rfl⟩
          have hX : litX ⟨neg, all, behind, false, exp⟩ = E := by rw [hE]; simp [litX]
          have wn : IntKind.i64.wrap (-((dsml exp).1 : Int)) = -((dsml exp).1 : Int) := wrap_i64 (by omega)
          have wE : IntKind.i64.wrap (((dsml exp).1 : Int) - (behind : Int)) = E := by rw [hE]; exact wrap_i64 (by omega)
          simp [wn, wE]
          refine oks_callz [] .wide [.str all, .str [48]] (t_tl all 48 (by decide) (by omega)) (by simp) (by simp; rfl) (by simp) ?_
          rintro _ rfl
          refine oks_vc .wide ?_
          obtain ⟨a, ha⟩ : ∃ a, a = all.dropWhile (· == 48) := ⟨_, rfl⟩
          have hA : litA ⟨neg, all, behind, false, exp⟩ = a := ha.symm
          have hal2 : a.length ≤ 400 := by rw [ha]; exact Nat.le_trans (List.dropWhile_sublist _).length_le hal
          rw [← ha]
          by_cases h0 : a = []
          · simp [h0]
            exact hK _ _ rfl (by simp [litR, hok, hsm, hal, hA, h0, encRat, limbs_zero])
          · have hnum : isNum a = true := by have := isNum_litA ⟨neg, all, behind, false, exp⟩ hda (by rw [hA]; exact h0); rwa [hA] at this
            have hnl := limbs_decval a hnum
            have hpn : PCall Tryd.prog 42 [.str a] (· = .tup [encNat (decval a), .int .i64 0]) := by
              have := t_parseN a (by omega)
              rwa [parseN, if_pos hnum, if_pos (by omega)] at this
            simp [h0]
            refine oks_callz [] .wide [.str a] hpn (by simp) (by simp; rfl) (by simp) ?_
            rintro _ rfl
            refine oks_vc .wide ?_
            simp [encNat]
            refine oks_callz [] .wide [.int .u64 (U 1)] (t_of 1 (by decide)) (by simp) (by simp; rfl) (by simp; rfl) ?_
            rintro _ rfl
            refine oks_vc .wide ?_
            by_cases hneg : E < 0
            · obtain ⟨m, hm⟩ : ∃ m : Nat, -E = (m : Int) := ⟨(-E).toNat, by omega⟩
              have wm : IntKind.i64.wrap (-E) = (m : Int) := by rw [hm]; exact wrap_i64 (by omega)
              have hm8 : m ≤ 1000 := by omega
              have hlp := pow10_len m
              have hV : litV ⟨neg, all, behind, false, exp⟩ = lowN neg (decval a) (10 ^ m) := by
                unfold litV; rw [hX, hA, if_pos hneg, hm, Int.toNat_natCast]
              have hp0 : ¬ (10 ^ m = 0) := by have := Nat.pow_pos (n := m) (show 0 < 10 by decide); omega
              simp [encNat, hneg, wm]
              refine oks_callz [] .wide [.int .i64 (m : Int)] (t_power m hm8) (by simp) (by simp; rfl) (by simp) ?_
              rintro _ rfl
              refine oks_vc .wide ?_
              simp [encNat]
              refine oks_callz [] .wide [.bool neg, encNat (decval a), encNat (10 ^ m)] (t_make neg (decval a) (10 ^ m) (by omega) (by omega)) (by simp) (by simp; rfl) (by simp [encNat]) ?_
              rintro _ rfl
              refine oks_vc .wide ?_
              rw [makeP, if_neg hp0, lowP_eq, ← hV]
              simp [encR, encRat]
              exact hK _ _ rfl (by simp [litR, hok, hsm, hal, hA, h0, encR, encRat])
            · obtain ⟨m, hm⟩ : ∃ m : Nat, E = (m : Int) := ⟨E.toNat, by omega⟩
              have hm8 : m ≤ 1000 := by omega
              have hlp := pow10_len m
              have hlm := limbs_mul_len (decval a) (10 ^ m)
              have h1l : (limbs 1).length ≤ 800000 := by rw [limbs]; simp; rw [limbs]; simp
              have hV : litV ⟨neg, all, behind, false, exp⟩ = lowN neg (decval a * 10 ^ m) 1 := by
                unfold litV; rw [hX, hA, if_neg hneg, hm, Int.toNat_natCast]
              simp [encNat, hm, show ¬ ((m : Int) < 0) by omega]
              refine vc_drawS .wide [(4, 8)] rfl ?_
              simp
              refine dcall_pz [.int .i64 (m : Int)] _ (t_power m hm8) (by simp; rfl) (by simp) ?_
              simp [encNat]
              refine dcall_pz [encNat (decval a), encNat (10 ^ m)] _ (t_mul (decval a) (10 ^ m) (by omega) (by omega)) (by simp; rfl) (by simp [encNat]) ?_
              simp [encNat]
              refine oks_callz [] .wide [.bool neg, encNat (decval a * 10 ^ m), encNat 1] (t_make neg (decval a * 10 ^ m) 1 (by omega) h1l) (by simp) (by simp; rfl) (by simp [encNat]) ?_
              rintro _ rfl
              refine oks_vc .wide ?_
              rw [makeP, if_neg (by decide), lowP_eq, ← hV]
              simp [encR, encRat]
              exact hK _ _ rfl (by simp [litR, hok, hsm, hal, hA, h0, encR, encRat])
      · simp [hal, show (400 : Int) < (all.length : Int) by omega, show 400 < all.length by omega]
        exact hK _ _ rfl (by simp [litR, hok, hsm, hal, encRat, limbs_zero])
  · simp [encParts, hok]
    exact hK _ _ rfl (by simp [litR, hok, encRat, limbs_zero])
end Go.Dl
set_option linter.unusedVariables false
set_option linter.unusedSimpArgs false
set_option maxRecDepth 1000000
namespace Go.Dl
open Go.Proofs

/-- the value of a literal, or the reason -/
def litVP (p : Parts) : PV :=
  if partsOk p then
    if (dsml p.exp).2 && decide (p.all.length ≤ 400) then .tup [.agg (encV ⟨1, ratT' (if litA p = [] then (false, 0, 0) else litV p), []⟩), .int .i64 0]
    else .tup [.agg (encV zeroV), .int .i64 2]
  else .tup [.agg (encV zeroV), .int .i64 3]
def vparseP (s : List UInt8) : PV :=
  if s = [63] then .tup [.agg (encV zeroV), .int .i64 0]
  else if (cutPre 58 s).2 then
    if 60 < (cutPre 58 s).1.length then .tup [.agg (encV zeroV), .int .i64 3] else .tup [.agg (encV ⟨2, [], (cutPre 58 s).1⟩), .int .i64 0]
  else if rOk s then .tup [.agg (encV ⟨1, s, []⟩), .int .i64 0]
  else litVP (parts s)

theorem litV_len (p : Parts) (h1 : (dsml p.exp).1 ≤ 400) (h2 : p.behind ≤ 400) (h3 : (limbs (decval (litA p))).length ≤ 400) :
    (limbs (litV p).2.1).length ≤ 600 ∧ (limbs (litV p).2.2).length ≤ 600 := by
  have hl : ∀ m, m ≤ 1000 → (limbs (10 ^ m)).length ≤ 126 := fun m hm => by have := pow10_len m; omega
  have hx : -800 ≤ litX p ∧ litX p ≤ 800 := by unfold litX; split <;> omega
  unfold litV
  split
  · exact lowN_len _ _ _ 600 (by omega) (by have := hl (-litX p).toNat (by omega); omega)
  · have hm := limbs_mul_len (decval (litA p)) (10 ^ (litX p).toNat)
    have := hl (litX p).toNat (by omega)
    exact lowN_len _ _ _ 600 (by omega) (by rw [limbs]; simp; rw [limbs]; simp)


theorem rval_len (s : List UInt8) (h : rOk s = true) : (limbs (rval s).2.1).length ≤ 1200 ∧ (limbs (rval s).2.2).length ≤ 1200 := by
  simp only [rOk, Bool.and_eq_true, decide_eq_true_eq] at h
  have lA := h.2.2.1
  have lB := h.2.2.2
  have nA := limbs_decval _ h.1.1.1
  have nB := limbs_decval _ h.1.1.2
  exact lowN_len (rpNeg s) (decval (rpA s)) (decval (rpB s)) 1200 (by omega) (by omega)

set_option maxHeartbeats 8000000 in
theorem t_vparse (s : List UInt8) (hs : s.length ≤ 100000) : PCall Tryd.prog 14 [.str s] (· = vparseP s) := by
  refine pcall_vcz c_vparse (by simp [c_vparse]) fun x K hK => ?_
  simp [c_vparse]
  by_cases hq : s = [63]
  · simp [hq]
    exact hK _ _ rfl (by simp [vparseP, hq, encV, zeroV])
  · simp [hq]
    refine oks_callz [] .wide [.str s, .str [58]] (t_cutp s 58 (by omega)) (by simp) (by simp; rfl) (by simp) ?_
    rintro _ rfl
    refine oks_vc .wide ?_
    have lc := cutPre_len 58 s
    cases hc : (cutPre 58 s).2 with
    | true =>
      by_cases hl : 60 < (cutPre 58 s).1.length
      · simp [cutPreP, hc, show (60 : Int) < ((cutPre 58 s).1.length : Int) by omega, hl]
        exact hK _ _ rfl (by simp [vparseP, hq, hc, hl, encV, zeroV])
      · simp [cutPreP, hc, show ¬ (60 : Int) < ((cutPre 58 s).1.length : Int) by omega, hl]
        refine oks_callz [] .wide [.str (cutPre 58 s).1] (t_vcat (cutPre 58 s).1 (by omega)) (by simp) (by simp; rfl) (by simp) ?_
        rintro _ rfl
        refine oks_vc .wide ?_
        simp [encV]
        exact hK _ _ rfl (by simp [vparseP, hq, hc, hl, encV])
    | false =>
      simp [cutPreP, hc]
      refine oks_callz [] .wide [.str s] (t_rparse s hs) (by simp) (by simp; rfl) (by simp) ?_
      rintro _ rfl
      refine oks_vc .wide ?_
      by_cases hr : rOk s = true
      · have hrt : ratT (rval s).1 (rval s).2.1 (rval s).2.2 = s := by
          have := hr
          simp only [rOk, Bool.and_eq_true, decide_eq_true_eq] at this
          exact this.2.1
        have hrl := rval_len s hr
        rw [rparseP, if_pos hr]
        simp [encR, encRat]
        refine oks_callz [] .wide [encRat (rval s).1 (rval s).2.1 (rval s).2.2] (t_vof (rval s).1 (rval s).2.1 (rval s).2.2 (by omega) (by omega)) (by simp) (by simp; rfl) (by simp [encRat]) ?_
        rintro _ rfl
        refine oks_vc .wide ?_
        rw [hrt]
        simp [encV]
        exact hK _ _ rfl (by simp [vparseP, hq, hc, hr, encV])
      · rw [rparseP, if_neg hr]
        simp [encRat]
        refine oks_callz [] .wide [.str s] (t_dparse s (by omega)) (by simp) (by simp; rfl) (by simp) ?_
        rintro _ rfl
        refine oks_vc .wide ?_
        have hpl := parts_len s
        have hvp : vparseP s = litVP (parts s) := by simp [vparseP, hq, hc, hr]
        rw [hvp] at hK
        generalize parts s = p at *
        by_cases hok : partsOk p = true
        · by_cases h2 : ((dsml p.exp).2 && decide (p.all.length ≤ 400)) = true
          · have h2' := h2
            simp only [Bool.and_eq_true, decide_eq_true_eq] at h2'
            have hsm4 : (dsml p.exp).1 ≤ 400 := by
              have hsm := h2'.1
              unfold dsml at hsm ⊢
              split at hsm
              · simp at hsm
              · rename_i h; rw [if_neg h]; simpa using hsm
            obtain ⟨r, hr⟩ : ∃ r, r = if litA p = [] then (false, 0, 0) else litV p := ⟨_, rfl⟩
            have hda : p.all.all isDig = true := by
              simp only [partsOk, Bool.and_eq_true] at hok
              exact hok.1.2
            have hlen : (limbs r.2.1).length ≤ 600 ∧ (limbs r.2.2).length ≤ 600 := by
              rw [hr]
              split
              · simp [limbs_zero]
              · rename_i h0
                refine litV_len p hsm4 (by omega) ?_
                have := limbs_decval (litA p) (isNum_litA p hda h0)
                have l3 : (litA p).length ≤ 400 := Nat.le_trans (List.dropWhile_sublist _).length_le h2'.2
                omega
            have e1 : litR p = .tup [encR r, .int .i64 0] := by
              unfold litR
              rw [if_pos hok, if_pos h2, hr]
              split <;> simp [encR]
            have e2 : litVP p = .tup [.agg (encV ⟨1, ratT' r, []⟩), .int .i64 0] := by
              unfold litVP
              rw [if_pos hok, if_pos h2, hr]
            rw [e1]
            rw [e2] at hK
            simp [encR, encRat]
            refine oks_callz [] .wide [encRat r.1 r.2.1 r.2.2] (t_vof r.1 r.2.1 r.2.2 (by omega) (by omega)) (by simp) (by simp; rfl) (by simp [encRat]) ?_
            rintro _ rfl
            refine oks_vc .wide ?_
            simp [encV]
            exact hK _ _ rfl (by simp [encV, ratT'])
          · have e1 : litR p = .tup [encRat false 0 0, .int .i64 2] := by
              unfold litR; rw [if_pos hok, if_neg h2]
            have e2 : litVP p = .tup [.agg (encV zeroV), .int .i64 2] := by
              unfold litVP; rw [if_pos hok, if_neg h2]
            rw [e1]
            rw [e2] at hK
            simp [encRat]
            exact hK _ _ rfl (by simp [encV, zeroV])
        · have e1 : litR p = .tup [encRat false 0 0, .int .i64 3] := by
            unfold litR; rw [if_neg hok]
          have e2 : litVP p = .tup [.agg (encV zeroV), .int .i64 3] := by
            unfold litVP; rw [if_neg hok]
          rw [e1]
          rw [e2] at hK
          simp [encRat]
          exact hK _ _ rfl (by simp [encV, zeroV])
end Go.Dl
set_option linter.unusedVariables false
set_option linter.unusedSimpArgs false
set_option maxRecDepth 1000000
namespace Go.Dl
open Go.Proofs

theorem parts_15 : parts [49, 46, 53] = ⟨false, [49, 53], 1, false, [48]⟩ := by rfl
theorem dsml_0 : dsml [48] = (0, true) := by rfl
theorem ratT_32 : ratT' (false, 3, 2) = [51, 47, 50] := by
  simp [ratT', ratT, decT_lt, den1]
theorem litV_15 : litV ⟨false, [49, 53], 1, false, [48]⟩ = (false, 3, 2) := by
  simp only [litV, litX, dsml_0, litA]
  rfl
theorem rOk_15 : rOk [49, 46, 53] = false := by
  have : isNum (rpA [49, 46, 53]) = false := by rfl
  simp [rOk, this]
theorem vparse_15 : vparseP [49, 46, 53] = .tup [.agg (encV ⟨1, [51, 47, 50], []⟩), .int .i64 0] := by
  have h1 : partsOk ⟨false, [49, 53], 1, false, [48]⟩ = true := by rfl
  have h2 : ¬ litA ⟨false, [49, 53], 1, false, [48]⟩ = [] := by decide
  have e : litVP (parts [49, 46, 53]) = .tup [.agg (encV ⟨1, [51, 47, 50], []⟩), .int .i64 0] := by
    rw [parts_15]
    unfold litVP
    rw [if_pos h1, if_pos (by rfl), if_neg h2, litV_15, ratT_32]
  unfold vparseP
  rw [if_neg (by decide), if_neg (by decide), if_neg (by rw [rOk_15]; decide), e]
theorem vparse_red : vparseP [58, 114, 101, 100] = .tup [.agg (encV ⟨2, [], [114, 101, 100]⟩), .int .i64 0] := by
  unfold vparseP
  rw [if_neg (by decide), if_pos (by rfl), if_neg (by decide)]
  rfl
theorem rOk_32 : rOk [51, 47, 50] = true := by
  have h1 : rpA [51, 47, 50] = [51] := by rfl
  have h2 : rpB [51, 47, 50] = [50] := by rfl
  have h3 : rpNeg [51, 47, 50] = false := by rfl
  have h4 : lowN false (decval [51]) (decval [50]) = (false, 3, 2) := by rfl
  unfold rOk
  rw [h1, h2, h3, h4, ratT_32]
  rfl
theorem textP_32 : textP ⟨1, [51, 47, 50], []⟩ = [51, 47, 50] := by
  simp [textP, validP, numOk, rOk_32]
theorem textP_0 : textP ⟨0, [], []⟩ = [63] := by rfl

theorem t_alive12 : PCall Tryd.prog 11 [] (· = .bool true) := by
  refine pcall_vcz c_alive12 (by simp [c_alive12]) fun x K hK => ?_
  simp [c_alive12]
  refine oks_callz [] .wide [.str [49, 46, 53]] (t_vparse [49, 46, 53] (by simp)) (by simp) (by simp; rfl) (by simp) ?_
  rintro _ rfl
  refine oks_vc .wide ?_
  rw [vparse_15]
  simp [encV]
  refine oks_callz [] .wide [.str [58, 114, 101, 100]] (t_vparse [58, 114, 101, 100] (by simp)) (by simp) (by simp; rfl) (by simp) ?_
  rintro _ rfl
  refine oks_vc .wide ?_
  rw [vparse_red]
  simp [encV]
  refine vc_draw .wide rfl ?_
  simp
  refine dcall_pz [.str [114, 101, 100]] _ (t_vcat [114, 101, 100] (by simp)) (by simp; rfl) (by simp) ?_
  simp [encV]
  refine dcall_pz [.agg (encV ⟨1, [51, 47, 50], []⟩)] _ (t_vtext ⟨1, [51, 47, 50], []⟩ (by simp)) (by simp; rfl) (by simp [encV]) ?_
  simp [textP_32]
  refine dcall_pz [.agg (encV ⟨0, [], []⟩)] _ (t_vtext ⟨0, [], []⟩ (by simp)) (by simp; rfl) (by simp [encV]) ?_
  simp [textP_0]
  exact hK _ _ rfl (by simp)
end Go.Dl
set_option linter.unusedVariables false
set_option linter.unusedSimpArgs false
set_option maxRecDepth 1000000
namespace Go.Dl
open Go.Proofs

def sameV (v w : Val) : Bool := decide (v.kind = w.kind) && decide (v.num = w.num) && decide (v.cat = w.cat)
theorem t_vsame (v w : Val) : PCall Tryd.prog 24 [.agg (encV v), .agg (encV w)] (· = .bool (sameV v w)) := by
  obtain ⟨k, n, c⟩ := v
  obtain ⟨k', n', c'⟩ := w
  refine pcall_vcz c_vsame (by simp [c_vsame]) fun x K hK => ?_
  by_cases h1 : k = k'
  · by_cases h2 : n = n'
    · by_cases h3 : c = c'
      · simp [c_vsame, encV, h1, h2, h3]
        exact hK _ _ rfl (by simp [sameV, h1, h2, h3])
      · simp [c_vsame, encV, h1, h2, h3]
        exact hK _ _ rfl (by simp [sameV, h1, h2, h3])
    · simp [c_vsame, encV, h1, h2]
      exact hK _ _ rfl (by simp [sameV, h1, h2])
  · simp [c_vsame, encV, h1]
    exact hK _ _ rfl (by simp [sameV, h1])
theorem validR_eq (v : Val) : validR v = validP v := by
  unfold validR validP
  by_cases h0 : v.kind = 0
  · simp [h0]
  · by_cases h1 : v.kind = 1
    · simp [h1]
    · by_cases h2 : v.kind = 2
      · simp [h2]
      · simp [h0, h1, h2, numOk]
theorem r_vtext (v : Val) (hs : v.num.length ≤ 100000) : PCall Tryd.prog 23 [.agg (encV v)] (· = .str (textP v)) := by
  refine pcall_vcz c_r12text (by simp [c_r12text]) fun x K hK => ?_
  have hvr := r_valid v hs
  rw [validR_eq] at hvr
  simp [c_r12text, encV]
  refine oks_callz [] .wide [.agg (encV v)] hvr (by simp) (by simp; rfl) (by simp [encV]) ?_
  rintro _ rfl
  refine oks_vc .wide ?_
  by_cases hv : validP v = true
  · by_cases h0 : v.kind = 0
    · simp [hv, h0]
      exact hK _ _ rfl (by simp [textP, hv, h0])
    · by_cases h2 : v.kind = 2
      · have hc : v.cat.length ≤ 60 := by
          simp [validP, h2] at hv
          exact hv.2
        simp [hv, h0, h2, show 1 + v.cat.length ≤ 9223372036854775807 by omega, show v.cat.length + 1 ≤ 9223372036854775807 by omega]
        exact hK _ _ rfl (by simp [textP, hv, h0, h2])
      · have h1 : v.kind = 1 := by
          simp [validP, h0, h2, numOk] at hv
          exact hv.1.1
        simp [hv, h1]
        exact hK _ _ rfl (by simp [textP, hv, h1])
  · simp [hv]
    exact hK _ _ rfl (by simp [textP, hv])

/-! the reading of a literal as the reference does it -/
/-- digits, how many behind the point, what is left; whether the point has been -/
def lm : Bool → List UInt8 → List UInt8 × Nat × List UInt8
  | _, [] => ([], 0, [])
  | p, c :: r => if isDig c then (c :: (lm p r).1, (if p then 1 else 0) + (lm p r).2.1, (lm p r).2.2) else if c = 46 ∧ p = false then lm true r else ([], 0, c :: r)
theorem lm_dig : ∀ (p : Bool) (s : List UInt8), (lm p s).1.all isDig = true
  | _, [] => by simp [lm]
  | p, c :: r => by
    unfold lm
    split
    · simp [*, lm_dig p r]
    · split
      · exact lm_dig true r
      · simp
theorem lm_all : ∀ (p : Bool) (d t : List UInt8), d.all isDig = true → lm p (d ++ t) = (d ++ (lm p t).1, (if p then d.length else 0) + (lm p t).2.1, (lm p t).2.2)
  | p, [], t, _ => by simp
  | p, c :: r, t, h => by
    simp only [List.all_cons, Bool.and_eq_true] at h
    have ih := lm_all p r t h.2
    rw [List.cons_append, lm, if_pos h.1, ih]
    cases p
    · simp
    · simp; omega
theorem isE_notDig (c : UInt8) (h : isE c = true) : isDig c = false ∧ c ≠ 46 := by
  simp only [isE, Bool.or_eq_true, beq_iff_eq] at h
  refine ⟨by simp [isDig]; omega, ?_⟩
  rintro rfl
  revert h; decide
/-- where the text ends or the exponent's sign stands, the digits end -/
theorem lm_stop (p : Bool) (t : List UInt8) (h : t = [] ∨ ∃ c r, t = c :: r ∧ isE c = true) : lm p t = ([], 0, t) := by
  rcases h with rfl | ⟨c, r, rfl, h⟩
  · simp [lm]
  · obtain ⟨h1, h2⟩ := isE_notDig c h
    rw [lm, if_neg (by rw [h1]; decide), if_neg (fun h => h2 h.1)]
/-- cut at the point: digits on both sides -/
theorem lm_cut (m t : List UInt8) (h : (cutC 46 m).1.all isDig = true ∧ (cutC 46 m).2.1.all isDig = true) (ht : t = [] ∨ ∃ c r, t = c :: r ∧ isE c = true) :
    lm false (m ++ t) = ((cutC 46 m).1 ++ (cutC 46 m).2.1, (cutC 46 m).2.1.length, t) := by
  obtain ⟨h1, h2⟩ := h
  obtain ⟨_, e1, e2⟩ := indexByte_cut 46 m
  cases hb : (cutC 46 m).2.2 with
  | true =>
    have e := e1 hb
    generalize (cutC 46 m).1 = a at *
    generalize (cutC 46 m).2.1 = b at *
    subst e
    rw [List.append_assoc, lm_all false a _ h1, List.cons_append, lm, if_neg (by decide), if_pos ⟨rfl, rfl⟩, lm_all true b t h2, lm_stop true t ht]
    simp
  | false =>
    obtain ⟨e3, e4⟩ := e2 hb
    rw [e3] at h1
    rw [e3, e4, lm_all false m t h1, lm_stop false t ht]
    simp
def goodM (p : Bool) (m : List UInt8) : Bool := if p then m.all isDig else (cutC 46 m).1.all isDig && (cutC 46 m).2.1.all isDig
theorem lm_bad (t : List UInt8) : ∀ (m : List UInt8) (p : Bool), (∀ c ∈ m, isE c = false) → goodM p m = false → ∃ c r, (lm p (m ++ t)).2.2 = c :: r ∧ isE c = false
  | [], p, _, h => by cases p <;> simp [goodM, cutC] at h
  | c :: r, p, he, h => by
    have her : ∀ c ∈ r, isE c = false := fun x hx => he x (List.mem_cons_of_mem _ hx)
    by_cases hd : isDig c = true
    · have h46 : c ≠ 46 := by rintro rfl; revert hd; decide
      have hg : goodM p r = false := by
        cases p
        · simpa [goodM, cutC, h46, hd] using h
        · simpa [goodM, hd] using h
      rw [List.cons_append, lm, if_pos hd]
      exact lm_bad t r p her hg
    · by_cases h46 : c = 46 ∧ p = false
      · obtain ⟨rfl, rfl⟩ := h46
        have hg : goodM true r = false := by simpa [goodM, cutC] using h
        rw [List.cons_append, lm, if_neg hd, if_pos ⟨rfl, rfl⟩]
        exact lm_bad t r true her hg
      · rw [List.cons_append, lm, if_neg hd, if_neg h46]
        exact ⟨c, r ++ t, rfl, he c (List.mem_cons_self ..)⟩
end Go.Dl
set_option linter.unusedVariables false
set_option linter.unusedSimpArgs false
namespace Go.Dl

def ltC : Nat → DCode → DCode
  | 0, _ => .skip
  | k + 1, .seq a b => .seq a (ltC k b)
  | _ + 1, c => c
def rtC : Nat → DCode → DCode
  | 0, c => c
  | k + 1, .seq _ b => rtC k b
  | _ + 1, _ => .skip
def hdC : DCode → DCode
  | .seq a _ => a
  | c => c
def tlC : DCode → DCode
  | .seq _ b => b
  | c => c
def thC : DCode → DCode
  | .cond _ a _ => a
  | c => c
def elC : DCode → DCode
  | .cond _ _ b => b
  | c => c
def bdC : DCode → DCode
  | .block _ a => a
  | .loop a => a
  | .scope a => a
  | .range _ _ _ a => a
  | c => c
def nestC : Nat → DCode → Bool
  | 0, _ => true
  | k + 1, .seq _ b => nestC k b
  | _ + 1, _ => false
/-- at the cut: a state of the family -/
def AtC {Y : Type} (inv : Y → Prop) (I : Y → St) (s : St) : Prop := ∃ y, inv y ∧ s.Sub (I y)
theorem AtC.mk {Y : Type} {inv : Y → Prop} {I : Y → St} {s : St} (y : Y) (hy : inv y) (hs : s.Sub (I y)) : AtC inv I s := ⟨y, hy, hs⟩
def KC {Y : Type} (inv : Y → Prop) (I : Y → St) (Q : Exit → St → Prop) (e : Exit) (s : St) : Prop := match e with | .normal => AtC inv I s | e => Q e s
section
variable {Y : Type} {inv : Y → Prop} {I : Y → St} {Q : Exit → St → Prop}
@[simp] theorem KC_normal (s : St) : KC inv I Q .normal s = AtC inv I s := propext Iff.rfl
@[simp] theorem KC_exit (s : St) (i : Nat) : KC inv I Q (.exit i) s = Q (.exit i) s := propext Iff.rfl
@[simp] theorem KC_ret (s : St) : KC inv I Q .ret s = Q .ret s := propext Iff.rfl

theorem vc_cut {F : Fence} {P : Program} {nt : Nat} {x : Fx} (hF : Free F) (inv : Y → Prop) (I : Y → St) : ∀ (k : Nat) (c : DCode) (st : St), nestC k c = true → (∀ y, inv y → Ok F P nt x (rtC k c) Q (I y)) →
    VC F P nt x (ltC k c) (KC inv I Q) st → Ok F P nt x c Q st
  | 0, c, st, _, ht, h => by
    have h' : ∃ y, inv y ∧ st.Sub (I y) := h
    obtain ⟨y, hy, hs⟩ := h'
    exact ok_sub hs (ht y hy)
  | k + 1, .seq a b, st, hn, ht, h => by
    have h' : VC F P nt x a (Kseq (VC F P nt x (ltC k b) (KC inv I Q)) (KC inv I Q)) st := h
    refine ok_seq (ok_mono (vc_ok hF a h') fun e s hq => ?_)
    cases e with
    | normal => exact vc_cut hF inv I k b s hn ht hq
    | exit i => exact hq
    | ret => exact hq
    | goto => exact hq
    | panic => exact hq
    | outgrown => exact hq
  | k + 1, .skip, st, hn, _, _ => by cases hn
  | k + 1, .reg _, st, hn, _, _ => by cases hn
  | k + 1, .draw _, st, hn, _, _ => by cases hn
  | k + 1, .cond .., st, hn, _, _ => by cases hn
  | k + 1, .block .., st, hn, _, _ => by cases hn
  | k + 1, .loop .., st, hn, _, _ => by cases hn
  | k + 1, .range .., st, hn, _, _ => by cases hn
  | k + 1, .exit _, st, hn, _, _ => by cases hn
  | k + 1, .scope _, st, hn, _, _ => by cases hn
  | k + 1, .label, st, hn, _, _ => by cases hn
  | k + 1, .ret, st, hn, _, _ => by cases hn
  | k + 1, .bad, st, hn, _, _ => by cases hn
end
theorem pcall_okz {P : Program} [DGood P] {f : FuncId} {args : List PV} {R : PV → Prop} (D : { d : DFn // compF P f = some d }) (hl : args.length ≤ D.1.nt)
    (h : ∀ (x : Fx) (K : PV → Prop), (∀ r r', R r' → r.rsz r' → K r) → Ok Fence.wide P D.1.nt x D.1.code (retQ D.1.res K) ⟨D.1.nt, argsT 0 args, []⟩) : PCall P f args R :=
  PCall.rsz_res (pcall_of D.2 hl fun x => h x (fun r => ∃ r', r.rsz r' ∧ R r') fun r r' h1 h2 => ⟨r', h2, h1⟩)
section
variable {F : Fence} {P : Program} {nt : Nat} {x : Fx} {Q : Exit → St → Prop} {st : St} {Y : Type}
/-- a first part that ends in a state of a family, and what is behind it -/
theorem ok_mid {a b : DCode} (inv : Y → Prop) (I : Y → St) (hb : ∀ y, inv y → Ok F P nt x b Q (I y)) (ha : Ok F P nt x a (KC inv I Q) st) : Ok F P nt x (.seq a b) Q st := by
  refine ok_seq (ok_mono ha fun e s hq => ?_)
  cases e with
  | normal => obtain ⟨y, hy, hs⟩ := hq; exact ok_sub hs (hb y hy)
  | exit i => exact hq
  | ret => exact hq
  | goto => exact hq
  | panic => exact hq
  | outgrown => exact hq
/-- at the cut, some objects frozen: a state of the family -/
def AtF {Y : Type} (inv : Y → Prop) (I : Y → St) (s : St) : Prop := ∃ y, inv y ∧ ∃ ks, (s.frz ks).Sub (I y)
theorem AtF.mk {Y : Type} {inv : Y → Prop} {I : Y → St} {s : St} (y : Y) (ks : List Nat) (hy : inv y) (hs : (s.frz ks).Sub (I y)) : AtF inv I s := ⟨y, hy, ks, hs⟩
def KF {Y : Type} (inv : Y → Prop) (I : Y → St) (Q : Exit → St → Prop) (e : Exit) (s : St) : Prop := match e with | .normal => AtF inv I s | e => Q e s
@[simp] theorem KF_normal (inv : Y → Prop) (I : Y → St) (s : St) : KF inv I Q .normal s = AtF inv I s := propext Iff.rfl
@[simp] theorem KF_exit (inv : Y → Prop) (I : Y → St) (s : St) (i : Nat) : KF inv I Q (.exit i) s = Q (.exit i) s := propext Iff.rfl
@[simp] theorem KF_ret (inv : Y → Prop) (I : Y → St) (s : St) : KF inv I Q .ret s = Q .ret s := propext Iff.rfl
theorem ok_midf {a b : DCode} (inv : Y → Prop) (I : Y → St) (hb : ∀ y, inv y → Ok F P nt x b Q (I y)) (ha : Ok F P nt x a (KF inv I Q) st) : Ok F P nt x (.seq a b) Q st := by
  refine ok_seq (ok_mono ha fun e s hq => ?_)
  cases e with
  | normal => obtain ⟨y, hy, ks, hs⟩ := hq; exact ok_frz ks (ok_sub hs (hb y hy))
  | exit i => exact hq
  | ret => exact hq
  | goto => exact hq
  | panic => exact hq
  | outgrown => exact hq
theorem frz_sub {nt : Nat} {T T' : List (Nat × DV)} {H H' : List (Nat × Ob)} {ks : List Nat} (h : subL (St.frz ⟨nt, T, H⟩ ks).T T' ∧ subL (St.frz ⟨nt, T, H⟩ ks).H H') : St.Sub (St.frz ⟨nt, T, H⟩ ks) ⟨nt, T', H'⟩ := sub_of rfl h.1 h.2
def KSeq (F : Fence) (P : Program) (nt : Nat) (x : Fx) (b : DCode) (Q : Exit → St → Prop) (e : Exit) (s : St) : Prop := match e with | .normal => Ok F P nt x b Q s | e => Q e s
@[simp] theorem KSeq_normal (b : DCode) (s : St) : KSeq F P nt x b Q .normal s = Ok F P nt x b Q s := propext Iff.rfl
@[simp] theorem KSeq_exit (b : DCode) (s : St) (i : Nat) : KSeq F P nt x b Q (.exit i) s = Q (.exit i) s := propext Iff.rfl
@[simp] theorem KSeq_ret (b : DCode) (s : St) : KSeq F P nt x b Q .ret s = Q .ret s := propext Iff.rfl
/-- a first part that is reckoned, and what is behind it -/
theorem ok_fst (hF : Free F) {a b : DCode} (ha : VC F P nt x a (KSeq F P nt x b Q) st) : Ok F P nt x (.seq a b) Q st := by
  refine ok_seq (ok_mono (vc_ok hF a ha) fun e s hq => ?_)
  cases e <;> exact hq
/-- a loop, its body not yet reckoned -/
theorem ok_lp {α : Type} {d : DCode} (I : α → St) (J : α → Prop) (μ : α → Nat) (y : α) (hJ : J y) (h0 : st.Sub (I y))
    (h : ∀ y, J y → ∀ K : Exit → St → Prop, (∀ s z, J z → μ z < μ y → s.Sub (I z) → K .normal s) → (∀ e s, e ≠ .normal → Q e s → K e s) → Ok F P nt x d K (I y)) : Ok F P nt x (.loop d) Q st :=
  ok_loop I J μ y hJ h0 fun y hy => h y hy _ (fun s z h1 h2 h3 => ⟨z, h1, h2, h3⟩) (fun e s he hq => by cases e <;> first | exact hq | exact (he rfl).elim)
theorem ok_blk {i : Nat} {d : DCode} (h : Ok F P nt x d (Kblk i Q) st) : Ok F P nt x (.block i d) Q st := by
  refine ok_block (ok_mono h fun e s hq => ?_)
  cases e <;> exact hq
end
end Go.Dl
