/- Contracts of hornbeam/rat. -/
import Derived.Test.YtjmhdfcmghmgjaaDoorNtU
set_option linter.unusedVariables false
set_option linter.unusedSimpArgs false
set_option maxRecDepth 1000000
namespace Go.Dl
open Go.Proofs

noncomputable def c_den : { d : DFn // compF Tryd.prog 81 = some d } := by
  refine ⟨?_, ?_⟩
  rotate_left
  · conv => lhs; reduce
noncomputable def c_whole : { d : DFn // compF Tryd.prog 48 = some d } := by
  refine ⟨?_, ?_⟩
  rotate_left
  · conv => lhs; reduce
noncomputable def c_lowest : { d : DFn // compF Tryd.prog 68 = some d } := by
  refine ⟨?_, ?_⟩
  rotate_left
  · conv => lhs; reduce
noncomputable def c_make : { d : DFn // compF Tryd.prog 43 = some d } := by
  refine ⟨?_, ?_⟩
  rotate_left
  · conv => lhs; reduce
noncomputable def c_rtext : { d : DFn // compF Tryd.prog 20 = some d } := by
  refine ⟨?_, ?_⟩
  rotate_left
  · conv => lhs; reduce
noncomputable def c_rparse : { d : DFn // compF Tryd.prog 12 = some d } := by
  refine ⟨?_, ?_⟩
  rotate_left
  · conv => lhs; reduce
noncomputable def c_cross : { d : DFn // compF Tryd.prog 86 = some d } := by
  refine ⟨?_, ?_⟩
  rotate_left
  · conv => lhs; reduce
noncomputable def c_rcmp : { d : DFn // compF Tryd.prog 59 = some d } := by
  refine ⟨?_, ?_⟩
  rotate_left
  · conv => lhs; reduce

def encRat (neg : Bool) (n d : Nat) : PV := .agg [.bool neg, .sl none 1 (enc (limbs n)) [], .sl none 1 (enc (limbs d)) []]
def den1 (d : Nat) : Nat := if d = 0 then 1 else d

theorem t_den (neg : Bool) (n d : Nat) : PCall Tryd.prog 81 [encRat neg n d] (· = encNat (den1 d)) := by
  refine pcall_vcz c_den (by simp [c_den]) fun x K hK => ?_
  simp [c_den, encRat]
  refine oks_callz [] .wide [encNat d] (t_zero d) (by simp) (by simp; rfl) (by simp [encNat]) ?_
  rintro _ rfl
  refine oks_vc .wide ?_
  by_cases h : d = 0
  · simp [h]
    refine oks_callz [] .wide [.int .u64 (U 1)] (t_of 1 (by decide)) (by simp) (by simp; rfl) (by simp [U]) ?_
    rintro _ rfl
    refine oks_vc .wide ?_
    simp [encNat]
    exact hK _ _ rfl (by simp [den1, h, encNat])
  · simp [h]
    exact hK _ _ rfl (by simp [den1, h, encNat])

theorem t_whole (neg : Bool) (n d : Nat) : PCall Tryd.prog 48 [encRat neg n d] (· = .bool (decide (den1 d = 1))) := by
  refine pcall_vcz c_whole (by simp [c_whole]) fun x K hK => ?_
  simp [c_whole, encRat]
  refine oks_callz [] .wide [encRat neg n d] (t_den neg n d) (by simp) (by simp; rfl) (by simp [encRat]) ?_
  rintro _ rfl
  refine oks_vc .wide ?_
  simp [encNat]
  refine oks_callz [] .wide [.int .u64 (U 1)] (t_of 1 (by decide)) (by simp) (by simp; rfl) (by simp [U]) ?_
  rintro _ rfl
  refine oks_vc .wide ?_
  simp [encNat]
  refine oks_callz [] .wide [encNat (den1 d), encNat 1] (t_cmp _ _) (by simp) (by simp; rfl) (by simp [encNat]) ?_
  rintro _ rfl
  refine oks_vc .wide ?_
  simp
  refine hK _ _ rfl ?_
  have : (cmpI (den1 d) 1 == 0) = decide (den1 d = 1) := by
    unfold cmpI
    by_cases h1 : den1 d < 1
    · simp [h1]; omega
    · by_cases h2 : den1 d = 1
      · simp [h2]
      · simp [h1, h2]
  simp [this]

def lowP (neg : Bool) (n d : Nat) : PV := if n = 0 then encRat false 0 0 else encRat neg (n / Nat.gcd n d) (d / Nat.gcd n d)
theorem t_lowest (neg : Bool) (n d : Nat) (hn : (limbs n).length ≤ 800000) (hd : (limbs d).length ≤ 800000) : PCall Tryd.prog 68 [.bool neg, encNat n, encNat d] (· = lowP neg n d) := by
  refine pcall_vcz c_lowest (by simp [c_lowest]) fun x K hK => ?_
  simp [c_lowest, encNat]
  refine oks_callz [] .wide [encNat n] (t_zero n) (by simp) (by simp; rfl) (by simp [encNat]) ?_
  rintro _ rfl
  refine oks_vc .wide ?_
  by_cases h : n = 0
  · simp [h]
    exact hK _ _ rfl (by simp [lowP, h, encRat, limbs_zero])
  · have hg : Nat.gcd n d ≠ 0 := fun e => h (Nat.eq_zero_of_gcd_eq_zero_left e)
    have hgn : (limbs (Nat.gcd n d)).length ≤ 800000 := Nat.le_trans (limbs_mono (Nat.gcd_le_left d (Nat.pos_of_ne_zero h))) hn
    simp [h]
    refine oks_callz [] .wide [encNat n, encNat d] (t_gcd n d hn hd) (by simp) (by simp; rfl) (by simp [encNat]) ?_
    rintro _ rfl
    refine oks_vc .wide ?_
    simp [encNat]
    refine oks_callz [] .wide [encNat n, encNat (Nat.gcd n d)] (t_divmod n _ hg hn hgn) (by simp) (by simp; rfl) (by simp [encNat]) ?_
    rintro _ rfl
    refine oks_vc .wide ?_
    simp [encNat]
    refine oks_callz [] .wide [encNat d, encNat (Nat.gcd n d)] (t_divmod d _ hg hd hgn) (by simp) (by simp; rfl) (by simp [encNat]) ?_
    rintro _ rfl
    refine oks_vc .wide ?_
    simp [encNat]
    exact hK _ _ rfl (by simp [lowP, h, encRat])

def makeP (neg : Bool) (n d : Nat) : PV := if d = 0 then .tup [encRat false 0 0, .int .i64 4] else .tup [lowP neg n d, .int .i64 0]
theorem t_make (neg : Bool) (n d : Nat) (hn : (limbs n).length ≤ 800000) (hd : (limbs d).length ≤ 800000) : PCall Tryd.prog 43 [.bool neg, encNat n, encNat d] (· = makeP neg n d) := by
  refine pcall_vcz c_make (by simp [c_make]) fun x K hK => ?_
  simp [c_make, encNat]
  refine oks_callz [] .wide [encNat d] (t_zero d) (by simp) (by simp; rfl) (by simp [encNat]) ?_
  rintro _ rfl
  refine oks_vc .wide ?_
  by_cases h : d = 0
  · simp [h]
    exact hK _ _ rfl (by simp [makeP, h, encRat, limbs_zero])
  · simp [h]
    refine oks_callz [] .wide [.bool neg, encNat n, encNat d] (t_lowest neg n d hn hd) (by simp) (by simp; rfl) (by simp [encNat]) ?_
    rintro _ rfl
    refine oks_vc .wide ?_
    by_cases h0 : n = 0
    · simp [lowP, encRat, h0]
      exact hK _ _ rfl (by simp [makeP, h, lowP, h0, encRat])
    · simp [lowP, encRat, h0]
      exact hK _ _ rfl (by simp [makeP, h, lowP, h0, encRat])

theorem decT_len (v : Nat) : (decT v).length ≤ 32 * (limbs v).length + 1 := by
  have key : ∀ v, v ≠ 0 → 10 ^ ((decT v).length - 1) ≤ v := by
    intro v
    induction v using Nat.strongRecOn with
    | ind v ih =>
      intro h0
      by_cases h : v < 10
      · rw [decT_lt h]; simp; omega
      · rw [decT_ge h, List.length_append]
        obtain ⟨b, r, e, _⟩ := decT_head (v / 10) (by omega)
        have := ih (v / 10) (by omega) (by omega)
        rw [e] at this ⊢
        simp only [List.length_cons, List.length_nil, Nat.zero_add, Nat.add_sub_cancel] at this ⊢
        rw [Nat.pow_succ]
        omega
  by_cases h : v = 0
  · subst h; rw [decT_lt (by decide)]; simp
  · have := log_bound (limbs v) _ (limbs_ok v) (by rw [val_limbs]; exact key v h)
    omega

def ratT (neg : Bool) (n d : Nat) : List UInt8 := (if neg then [45] else []) ++ decT n ++ (if den1 d = 1 then [] else 47 :: decT d)
theorem t_rtext (neg : Bool) (n d : Nat) (hn : (limbs n).length ≤ 30000) (hd : (limbs d).length ≤ 30000) : PCall Tryd.prog 20 [encRat neg n d] (· = .str (ratT neg n d)) := by
  refine pcall_vcz c_rtext (by simp [c_rtext]) fun x K hK => ?_
  have l1 := decT_len n
  have l2 := decT_len d
  have g1 : (decT n).length + 1 ≤ 9223372036854775807 := by omega
  have g2 : (decT d).length + 1 ≤ 9223372036854775807 := by omega
  have g3 : (decT n).length + ((decT d).length + 1) ≤ 9223372036854775807 := by omega
  have g4 : (decT n).length + 1 + ((decT d).length + 1) ≤ 9223372036854775807 := by omega
  have g5 : 1 + (decT n).length ≤ 9223372036854775807 := by omega
  have g6 : 1 + (decT d).length ≤ 9223372036854775807 := by omega
  simp [c_rtext, encRat]
  refine oks_callz [] .wide [encNat n] (t_text n hn) (by simp) (by simp; rfl) (by simp [encNat]) ?_
  rintro _ rfl
  refine oks_vc .wide ?_
  cases neg <;>
  · simp [g5]
    refine oks_callz [] .wide [encRat _ n d] (t_whole _ n d) (by simp) (by simp; rfl) (by simp [encRat]; rfl) ?_
    rintro _ rfl
    refine oks_vc .wide ?_
    by_cases h : den1 d = 1
    · simp [h]
      exact hK _ _ rfl (by simp [ratT, h])
    · simp [h]
      refine oks_callz [] .wide [encNat d] (t_text d hd) (by simp) (by simp; rfl) (by simp [encNat]) ?_
      rintro _ rfl
      refine oks_vc .wide ?_
      simp [g1, g2, g3, g4, g6]
      exact hK _ _ rfl (by simp [ratT, h])
end Go.Dl
