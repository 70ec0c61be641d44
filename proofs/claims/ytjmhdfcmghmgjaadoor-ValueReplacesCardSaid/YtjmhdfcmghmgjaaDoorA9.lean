/- Decimal text of a natural. Contracts of hornbeam/nat: Text. Contracts of hornbeam/nat: Mul. bits.LeadingZeros32. Contracts of hornbeam/nat: guess. Contracts of hornbeam/nat: step. -/
import Derived.Test.YtjmhdfcmghmgjaaDoorA8
import Derived.Lib.Small
import Derived.Lib.BitFns
import Derived.Lib.ItoaNum
set_option linter.unusedVariables false
set_option linter.unusedSimpArgs false
set_option maxRecDepth 1000000
namespace Go.Dl
open Go.Proofs

def decT (v : Nat) : List UInt8 := if h : v < 10 then [UInt8.ofNat (48 + v)] else decT (v / 10) ++ [UInt8.ofNat (48 + v % 10)]
termination_by v
decreasing_by omega
theorem decT_lt {v : Nat} (h : v < 10) : decT v = [UInt8.ofNat (48 + v)] := by rw [decT]; simp [h]
theorem decT_ge {v : Nat} (h : ¬ v < 10) : decT v = decT (v / 10) ++ [UInt8.ofNat (48 + v % 10)] := by rw [decT]; simp [h]
theorem ofNat_toNat48 {d : Nat} (h : d < 10) : (UInt8.ofNat (48 + d)).toNat = 48 + d := by
  rw [UInt8.toNat_ofNat']; omega
theorem decT_head (v : Nat) (h : 0 < v) : ∃ b r, decT v = b :: r ∧ b.toNat ≠ 48 := by
  induction v using Nat.strongRecOn with
  | ind v ih =>
    by_cases h1 : v < 10
    · exact ⟨_, [], decT_lt h1, by rw [ofNat_toNat48 h1]; omega⟩
    · obtain ⟨b, r, e, hb⟩ := ih (v / 10) (by omega) (by omega)
      exact ⟨b, r ++ [UInt8.ofNat (48 + v % 10)], by rw [decT_ge h1, e]; rfl, hb⟩
theorem decT_dig (v : Nat) : (decT v).all isDig = true := by
  induction v using Nat.strongRecOn with
  | ind v ih =>
    by_cases h1 : v < 10
    · rw [decT_lt h1]; simp only [List.all_cons, List.all_nil, Bool.and_true, isDig, ofNat_toNat48 h1, Bool.and_eq_true, decide_eq_true_eq]; omega
    · rw [decT_ge h1, List.all_append, ih _ (by omega)]
      simp only [List.all_cons, List.all_nil, Bool.and_true, isDig, ofNat_toNat48 (show v % 10 < 10 by omega), Bool.true_and, Bool.and_eq_true, decide_eq_true_eq]; omega
theorem decval_decT (v : Nat) : decval (decT v) = v := by
  induction v using Nat.strongRecOn with
  | ind v ih =>
    by_cases h1 : v < 10
    · rw [decT_lt h1]; simp only [decval, List.foldl_cons, List.foldl_nil, ofNat_toNat48 h1]; omega
    · rw [decT_ge h1, decval_app, ih _ (by omega), ofNat_toNat48 (by omega)]; omega
theorem isNum_decT (v : Nat) : isNum (decT v) = true := by
  by_cases h : v = 0
  · subst h; decide +kernel
  · obtain ⟨b, r, e, hb⟩ := decT_head v (by omega)
    have := decT_dig v
    unfold isNum
    rw [this, e]
    simp [hb]
theorem decT_parse (s : List UInt8) (h : isNum s = true) : decT (decval s) = s := by
  have key : ∀ (n : Nat) (s : List UInt8), s.length = n → s.all isDig = true → (∃ b r, s = b :: r ∧ b.toNat ≠ 48) → 0 < decval s ∧ decT (decval s) = s := by
    intro n
    induction n with
    | zero => intro s hs _ ⟨b, r, e, _⟩; subst e; simp at hs
    | succ n ih =>
      intro s hs hd ⟨b, r, e, hb⟩
      obtain ⟨t, c, rfl⟩ : ∃ t c, s = t ++ [c] := ⟨s.dropLast, s.getLast (by rw [e]; simp), (List.dropLast_concat_getLast (by rw [e]; simp)).symm⟩
      simp only [List.all_append, List.all_cons, List.all_nil, Bool.and_true, Bool.and_eq_true] at hd
      have hc := hd.2
      simp only [isDig, Bool.and_eq_true, decide_eq_true_eq] at hc
      rw [decval_app]
      have hcc : UInt8.ofNat (48 + (c.toNat - 48)) = c := by rw [show 48 + (c.toNat - 48) = c.toNat by omega]; simp
      cases t with
      | nil =>
        simp only [List.nil_append, List.cons.injEq] at e
        obtain ⟨rfl, _⟩ := e
        have : decval [] = 0 := rfl
        rw [this, Nat.zero_mul, Nat.zero_add, decT_lt (by omega), hcc]
        exact ⟨by omega, rfl⟩
      | cons y t =>
        simp only [List.cons_append, List.cons.injEq] at e
        obtain ⟨rfl, _⟩ := e
        obtain ⟨h1, h2⟩ := ih (y :: t) (by simpa using hs) hd.1 ⟨y, t, rfl, hb⟩
        rw [decT_ge (by omega), show (decval (y :: t) * 10 + (c.toNat - 48)) / 10 = decval (y :: t) by omega, h2, show (decval (y :: t) * 10 + (c.toNat - 48)) % 10 = c.toNat - 48 by omega, hcc]
        exact ⟨by omega, rfl⟩
  unfold isNum at h
  rw [Bool.and_eq_true, Bool.or_eq_true] at h
  obtain ⟨hd, h | h⟩ := h
  · have : s = [48] := by simpa using h
    subst this
    decide +kernel
  · cases s with
    | nil => cases h
    | cons b r => exact (key _ (b :: r) rfl hd ⟨b, r, rfl, by simpa using h⟩).2

/-- the lowest k digits, the lowest first -/
def lowD : Nat → Nat → List Nat
  | 0, _ => []
  | k + 1, v => (48 + v % 10) :: lowD k (v / 10)
theorem lowD_len : ∀ (k v : Nat), (lowD k v).length = k
  | 0, _ => rfl
  | k + 1, v => by simp [lowD, lowD_len k]
theorem lowD_snoc : ∀ (k v : Nat), lowD (k + 1) v = lowD k v ++ [48 + v / 10 ^ k % 10]
  | 0, v => by simp [lowD]
  | k + 1, v => by
    rw [lowD, lowD_snoc k (v / 10), Nat.div_div_eq_div_mul, show 10 * 10 ^ k = 10 ^ (k + 1) by rw [Nat.pow_succ, Nat.mul_comm]]
    rfl
theorem lowD_text : ∀ (k v : Nat), v < 10 ^ k → ((lowD k v).reverse.map UInt8.ofNat).dropWhile (· == 48) = if v = 0 then [] else decT v
  | 0, v, h => by
    have : v = 0 := by simpa using h
    subst this; rfl
  | k + 1, v, h => by
    have ih := lowD_text k (v / 10) (by rw [Nat.pow_succ] at h; omega)
    rw [lowD, List.reverse_cons, List.map_append, List.dropWhile_append]
    by_cases h0 : v / 10 = 0
    · rw [if_pos h0] at ih
      rw [ih]
      have hm : v % 10 = v := by omega
      simp only [List.isEmpty_nil, if_true, List.map_cons, List.map_nil, hm]
      by_cases hv : v = 0
      · subst hv; decide +kernel
      · rw [if_neg hv, decT_lt (by omega)]
        have : (UInt8.ofNat (48 + v) == 48) = false := by
          rw [beq_eq_false_iff_ne]
          intro e
          have := congrArg UInt8.toNat e
          rw [ofNat_toNat48 (by omega)] at this
          have h48 : (48 : UInt8).toNat = 48 := rfl
          omega
        show List.dropWhile (· == 48) [UInt8.ofNat (48 + v)] = _
        rw [List.dropWhile_cons, this]; rfl
    · rw [if_neg h0] at ih
      rw [ih]
      obtain ⟨b, r, e, hb⟩ := decT_head (v / 10) (by omega)
      have hem : (decT (v / 10)).isEmpty = false := by rw [e]; rfl
      rw [hem, if_neg (by simp), if_neg (show ¬ v = 0 by omega), decT_ge (show ¬ v < 10 by omega)]
      rfl

theorem bytesOf_encB : ∀ l : List Nat, bytesOf (encB l) = some (l.map UInt8.ofNat)
  | [] => rfl
  | d :: r => by
    have ih := bytesOf_encB r
    simp only [encB] at ih ⊢
    simp only [List.map_cons, bytesOf, byteOf, ih]
    congr 2
theorem ev_rem10 (a : Nat) : evBin .rem (.int .u32 (U a)) (.int .u32 10) = some (.int .u32 (U (a % 10))) := by
  simp only [evBin, if_true]; unfold U
  rw [if_neg (by decide)]
  congr 2
theorem ev_quo10 (a : Nat) (h : a < 4294967296) : evBin .quo (.int .u32 (U a)) (.int .u32 10) = some (.int .u32 (U (a / 10))) := by
  simp only [evBin, if_true, wrap_u32']; unfold U
  rw [if_neg (by decide)]
  congr 2
  rw [Int.tdiv_eq_ediv_of_nonneg (by omega)]
  omega
theorem ev_add48 (a : Nat) (h : a < 10) : evBin .add (.int .u32 48) (.int .u32 (U a)) = some (.int .u32 (U (48 + a))) := by
  simp only [evBin, if_true, wrap_u32']; unfold U
  congr 2
  omega
end Go.Dl
set_option linter.unusedVariables false
set_option linter.unusedSimpArgs false
set_option maxRecDepth 1000000
namespace Go.Dl
open Go.Proofs

structure TxY where
  l : List Nat
  t : List Nat
  room : Nat
  out : List Nat
def outV : List Nat → DV
  | [] => .p (.sl (some true) 0 [] [])
  | d :: r => .own 27 1 0 (d :: r).length (d :: r).length
def outH : List Nat → List (Nat × Ob)
  | [] => []
  | d :: r => [(27, ⟨false, 1, .p (encB (d :: r))⟩)]
def txI (y : TxY) : St := ⟨36, [(4, .own 10 1 0 y.l.length y.room), (3, outV y.out)], (10, ⟨false, 1, .p (enc (y.l ++ y.t))⟩) :: outH y.out⟩
def txJ (y : TxY) (z : Nat × Nat × List Nat) : St := ⟨36, [(19, .p (.int .i64 (z.1 : Int))), (5, .p (.int .u32 (U z.2.1))), (4, .own 10 1 0 y.l.length y.room), (3, outV z.2.2)], (10, ⟨false, 1, .p (enc (y.l ++ y.t))⟩) :: outH z.2.2⟩

theorem limbs_top (v : Nat) : ∀ k, (limbs v).length = k + 1 → (limbs v)[k]? ≠ some 0 := by
  induction v using Nat.strongRecOn with
  | ind v ih =>
    intro k hk
    by_cases h : v = 0
    · rw [h, limbs_zero] at hk; simp at hk
    · rw [limbs_pos h] at hk ⊢
      cases k with
      | zero =>
        simp at hk
        have : v / 4294967296 = 0 := limbs_len_zero.1 (by rw [hk]; rfl)
        simp; omega
      | succ k => simpa using ih _ (by omega) k (by simpa using hk)
theorem dig_mod (a j : Nat) (hj : j < 9) : a % 1000000000 / 10 ^ j % 10 = a / 10 ^ j % 10 := by
  have e : (1000000000 : Nat) = 10 ^ j * 10 ^ (9 - j) := by rw [← Nat.pow_add, show j + (9 - j) = 9 by omega]
  rw [e, Nat.mod_mul_right_div_self, Nat.mod_mod_of_dvd]
  exact ⟨10 ^ (8 - j), by rw [show 9 - j = (8 - j) + 1 by omega, Nat.pow_succ, Nat.mul_comm]⟩
theorem log_bound (l : List Nat) (k : Nat) (h : OkL l) (hk : 10 ^ k ≤ val l) : k < 32 * l.length := by
  have h1 := val_lt h
  rw [show (4294967296 : Nat) = 2 ^ 32 from rfl, ← Nat.pow_mul] at h1
  have h3 : 2 ^ k ≤ 10 ^ k := Nat.pow_le_pow_left (by decide) k
  exact (Nat.pow_lt_pow_iff_right (by decide : 1 < 2)).1 (by omega)
theorem t_text (v : Nat) (hv : (limbs v).length ≤ 30000) : PCall Tryd.prog 47 [encNat v] (· = .str (decT v)) := by
  refine pcall_vc c_nattext (by simp [c_nattext]) fun x K hK => ?_
  simp [c_nattext, encNat]
  refine oks_callz [] .wide [encNat v] (t_zero v) (by simp) (by simp; rfl) (by simp [encNat]) ?_
  rintro _ rfl
  refine oks_vc .wide ?_
  by_cases h0 : v = 0
  · simp [h0]
    exact hK _ (by rw [h0, decT_lt (by omega)]; rfl)
  · simp [h0]
    have hne : limbs v ≠ [] := by rw [limbs_pos h0]; simp
    refine oks_calln .wide (ps := [.sl none 1 (enc (limbs v)) []]) (by simp) (by simp) (t_clone32 (limbs v) hne (by omega)) ?_
    rintro _ H ⟨k, rfl, hH⟩
    refine ⟨k, 1, 0, _, _, _, rfl, hH, oks_vc .wide ?_⟩
    simp
    have h2v : ∀ k, 10 ^ k ≤ v → k < 960000 := fun k hk => by
      have := log_bound _ k (limbs_ok v) (by rw [val_limbs]; exact hk)
      omega
    refine vc_loop .wide txI (fun y => OkL y.l ∧ val y.l = v / 10 ^ y.out.length ∧ (∀ k, y.l.length = k + 1 → y.l[k]? ≠ some 0) ∧ y.l.length ≤ 30000 ∧ y.out = lowD y.out.length v ∧ y.l.length ≤ y.room ∧ y.out.length ≤ 960009) (fun y => val y.l)
      ⟨limbs v, [], (limbs v).length, []⟩ ?_ (sub_iff (by simp [outV, outH, txI])) ?_
    · refine ⟨limbs_ok v, by simp [val_limbs], ?_, hv, rfl, Nat.le_refl _, by simp⟩
      exact limbs_top v
    · rintro ⟨l, t, room, out⟩ ⟨h1, h2, h3, h4, h5, h6, h7⟩ Q g1 g2
      simp only at h1 h2 h3 h4 h5 h6 h7
      by_cases hl0 : l = []
      · subst hl0
        obtain ⟨d, q, rfl⟩ : ∃ d q, out = d :: q := by
          cases out with
          | nil => simp [val] at h2; omega
          | cons d q => exact ⟨d, q, rfl⟩
        simp [txI, outV, outH]
        refine g2 _ _ (by simp) ?_
        simp
        refine oks_callb .wide 27 (by simp) (by simp; exact ⟨rfl, rfl⟩) (by simpa using t_reverse (d :: q) (q.length + 1) (by simp at h7 ⊢; omega)) ?_
        rintro _ H ⟨rfl, hH⟩
        refine ⟨_, hH, oks_vc .wide ?_⟩
        have hb := bytesOf_encB (d :: q).reverse
        have hv0 : v < 10 ^ (d :: q).length := by
          have : v / 10 ^ (d :: q).length = 0 := by rw [← h2]; rfl
          exact Nat.lt_of_not_le fun h => by
            have := Nat.div_pos h (Nat.pow_pos (by decide))
            omega
        have htx := lowD_text (d :: q).length v hv0
        rw [← h5, if_neg h0] at htx
        have hcut : (encB (d :: q).reverse).take (q.length + 1) = encB (d :: q).reverse := List.take_of_length_le (by simp)
        simp only [List.reverse_cons] at hb hcut htx
        simp [hcut, hb]
        refine oks_callz [] .wide [.str ((q.reverse ++ [d]).map UInt8.ofNat), .str [48]] (t_tl _ 48 (by decide) (by simp at h7 ⊢; omega)) (by simp) (by simp; rfl) (by simp) ?_
        rintro _ rfl
        refine oks_vc .wide ?_
        simp
        exact hK _ (by rw [← htx]; simp)
      · have hpos : 0 < l.length := List.length_pos_iff.2 hl0
        simp [txI, hpos]
        refine oks_callb .wide 10 (by simp) (by simp; exact ⟨rfl, rfl⟩) (by simpa [show U 1000000000 = 1000000000 from rfl] using t_less l t room 1000000000 (by decide) (by decide) h1 (by omega)) ?_
        rintro _ H ⟨l', k1, k2, k3, hH, rfl⟩
        refine ⟨_, hH, oks_vc .wide ?_⟩
        simp
        have hvp : 0 < val l := Nat.pos_of_ne_zero fun e => hl0 (by
          have : l = limbs (val l) := (limbs_val h1 (fun k d hk hd e => h3 k hk (by rw [hd, e]))).symm
          rw [this, e, limbs_zero])
        have hok : 10 ^ out.length ≤ v := Nat.le_of_not_lt fun h => by
          rw [Nat.div_eq_of_lt h] at h2
          omega
        have h8 := h2v _ hok
        refine vc_loop .wide (txJ ⟨l', t, room, out⟩) (fun z => z.1 ≤ 9 ∧ z.2.1 = val l % 1000000000 / 10 ^ z.1 ∧ z.2.2 = lowD z.2.2.length v ∧ z.2.2.length = out.length + z.1) (fun z => 9 - z.1)
          ⟨0, val l % 1000000000, out⟩ ⟨by simp, by simp, h5, by simp⟩ ?_ ?_
        · cases out with
          | nil => exact sub_iff (by simp [outV, outH, txJ, k1])
          | cons d q => exact sub_iff (by simp [outV, outH, txJ, k1])
        · rintro ⟨j, rest, o⟩ ⟨j1, j2, j3, j4⟩ Q' g1' g2'
          simp only at j1 j2 j3 j4
          by_cases hj : j = 9
          · subst hj
            simp [txJ]
            refine g2' _ _ (by simp) ?_
            simp
            refine oks_callb .wide 10 (by simp) (by cases o <;> simp [outH] <;> exact ⟨rfl, rfl⟩) (by simpa using t_trimM l' t room (by omega) k2 (by omega)) ?_
            rintro _ H ⟨n, hn, hl', rfl, hH⟩
            refine ⟨_, hH, oks_vc .wide ?_⟩
            obtain ⟨d, q, rfl⟩ : ∃ d q, o = d :: q := by
              cases o with
              | nil => simp at j4
              | cons d q => exact ⟨d, q, rfl⟩
            have hnl : (limbs (val l')).length = n := by rw [← hl']; simp; omega
            simp [outV, outH]
            refine g1 _ ⟨limbs (val l'), l'.drop n ++ t, n, d :: q⟩ ⟨limbs_ok _, ?_, limbs_top _, by simp only [hnl]; omega, j3, by simp only [hnl]; omega, by simp only [j4]; omega⟩ ?_ (sub_iff ?_)
            · simp only [val_limbs, k3, h2, j4, Nat.div_div_eq_div_mul, Nat.pow_add]
            · simp only [val_limbs, k3]
              omega
            · have : enc (limbs (val l') ++ (l'.drop n ++ t)) = enc (l' ++ t) := by rw [← hl', ← List.append_assoc, List.take_append_drop]
              simp only [txI, this, hnl]
              simp [outV, outH]
          · have hj9 : j < 9 := by omega
            have hr : rest < 4294967296 := by
              have := Nat.div_le_self (val l % 1000000000) (10 ^ j)
              omega
            have hdig : rest % 10 = v / 10 ^ o.length % 10 := by
              rw [j2, j4, Nat.pow_add, ← Nat.div_div_eq_div_mul, ← h2]
              exact dig_mod _ j hj9
            have hrn : rest / 10 = val l % 1000000000 / 10 ^ (j + 1) := by rw [j2, Nat.div_div_eq_div_mul, Nat.pow_succ]
            have hm : rest % 10 < 10 := Nat.mod_lt _ (by decide)
            have hw : IntKind.i64.wrap ((j : Int) + 1) = (j : Int) + 1 := wrap_i64 (by omega)
            have h256 : (48 + rest % 10) % 256 = 48 + rest % 10 := Nat.mod_eq_of_lt (by omega)
            have fin : ∀ s : St, s.Sub (txJ ⟨l', t, room, out⟩ (j + 1, rest / 10, o ++ [48 + rest % 10])) → Q' .normal s := fun s hs => by
              refine g1' _ (j + 1, rest / 10, o ++ [48 + rest % 10]) ⟨by omega, hrn, ?_, by simp [j4]; omega⟩ (by simp; omega) hs
              simp only [List.length_append, List.length_cons, List.length_nil, Nat.zero_add, lowD_snoc, ← hdig]
              rw [← j3]
            cases o with
            | nil =>
              simp [txJ, outV, outH, show (j : Int) < 9 by omega, ev_rem10, ev_quo10 _ hr, ev_add48 _ hm, h256, hw, maxLen_eq]
              refine fin _ (sub_iff ?_)
              simp [txJ, outV, outH, encB]
            | cons d q =>
              simp only [List.length_cons] at j4
              have b1 : q.length + 1 + 1 ≤ 140737488355328 := by omega
              have b2 : q.length + 1 + 1 ≤ 9223372036854775807 := by omega
              simp [txJ, outV, outH, show (j : Int) < 9 by omega, ev_rem10, ev_quo10 _ hr, ev_add48 _ hm, h256, hw, maxLen_eq, b1, b2]
              refine fin _ (sub_iff ?_)
              simp [txJ, outV, outH, encB]
              exact List.take_of_length_le (by simp)
end Go.Dl
set_option linter.unusedVariables false
set_option linter.unusedSimpArgs false
set_option maxRecDepth 1000000
namespace Go.Dl
open Go.Proofs

theorem mul_fit {c x y d : Nat} (hc : c < 4294967296) (hx : x < 4294967296) (hy : y < 4294967296) (hd : d < 4294967296) : c + (x * y + d) < 18446744073709551616 := by
  have := Nat.mul_le_mul (show x ≤ 4294967295 by omega) (show y ≤ 4294967295 by omega)
  omega
theorem mul_step {V V' c x y d P Z : Nat} (h : V + c * P = Z) (hs : V' + P * d = V + P * ((c + (x * y + d)) % 4294967296)) :
    V' + ((c + (x * y + d)) / 4294967296) * (P * 4294967296) = Z + P * (x * y) := by
  have h1 := congrArg (P * ·) (Nat.div_add_mod (c + (x * y + d)) 4294967296)
  simp only [Nat.mul_add] at h1
  generalize (c + (x * y + d)) % 4294967296 = r at *
  generalize (c + (x * y + d)) / 4294967296 = q at *
  rw [Nat.mul_comm c P] at h
  have e1 : q * (P * 4294967296) = P * (4294967296 * q) := by rw [Nat.mul_comm q, Nat.mul_assoc]
  rw [e1]
  omega
theorem set_ok {l : List Nat} {i v : Nat} (h : OkL l) (hv : v < 4294967296) : OkL (l.set i v) := by
  intro d hd
  rcases List.mem_or_eq_of_mem_set hd with hd | rfl
  · exact h d hd
  · exact hv
theorem val_take_succ (B : List Nat) (j : Nat) (hj : j < B.length) : val (B.take (j + 1)) = val (B.take j) + 4294967296 ^ j * B[j] := by
  rw [← List.take_append_getElem hj, val_append]
  simp [val, Nat.min_eq_left (Nat.le_of_lt hj)]

def muI (A B : List Nat) (y : Nat × List Nat) : St := ⟨73, [(22, .p (.int .i64 (y.1 : Int))), (21, .p (.int .i64 (A.length : Int))), (20, .p (.sl none 1 (enc A) [])), (4, .ptr 4 1 0 0), (3, .ptr 3 1 0 0), (5, .own 18 1 0 (A.length + B.length) (A.length + B.length))], [(4, ⟨false, 1, .p [[.sl (some true) 0 [] []]]⟩), (3, ⟨false, 1, .p [[.sl none 1 (enc B) []]]⟩), (18, ⟨false, 1, .p (enc y.2)⟩)]⟩
def muJ (A B : List Nat) (i x : Nat) (z : Nat × Nat × List Nat) : St := ⟨73, [(30, .p (.int .i64 (z.1 : Int))), (29, .p (.int .i64 (B.length : Int))), (28, .p (.sl none 1 (enc B) [])), (8, .p (.int .u64 (U z.2.1))), (6, .p (.int .i64 (i : Int))), (7, .p (.int .u32 (U x))), (22, .p (.int .i64 (i : Int))), (21, .p (.int .i64 (A.length : Int))), (20, .p (.sl none 1 (enc A) [])), (4, .ptr 4 1 0 0), (3, .ptr 3 1 0 0), (5, .own 18 1 0 (A.length + B.length) (A.length + B.length))], [(4, ⟨false, 1, .p [[.sl (some true) 0 [] []]]⟩), (3, ⟨false, 1, .p [[.sl none 1 (enc B) []]]⟩), (18, ⟨false, 1, .p (enc z.2.2)⟩)]⟩

theorem t_mul (a b : Nat) (ha : (limbs a).length ≤ 1000000) (hb : (limbs b).length ≤ 1000000) : PCall Tryd.prog 74 [encNat a, encNat b] (· = encNat (a * b)) := by
  refine pcall_vcz c_mul (by simp [c_mul]) fun x K hK => ?_
  simp [c_mul, encNat]
  obtain ⟨A, hA⟩ : ∃ A, A = limbs a := ⟨_, rfl⟩
  obtain ⟨B, hB⟩ : ∃ B, B = limbs b := ⟨_, rfl⟩
  have okA : OkL A := hA ▸ limbs_ok a
  have okB : OkL B := hB ▸ limbs_ok b
  have vA : val A = a := by rw [hA, val_limbs]
  have vB : val B = b := by rw [hB, val_limbs]
  rw [← hA] at ha
  rw [← hB] at hb
  simp only [← hA, ← hB]
  have hw : IntKind.i64.wrap ((A.length : Int) + (B.length : Int)) = (A.length : Int) + (B.length : Int) := wrap_i64 (by omega)
  have b1 : (A.length + B.length) * 4 ≤ 281474976710656 := by omega
  have b2 : A.length + B.length ≤ 9223372036854775807 := by omega
  have b0 : (0 : Int) ≤ (A.length : Int) + (B.length : Int) := by omega
  have b3 : ((A.length : Int) + (B.length : Int)).toNat = A.length + B.length := by omega
  simp [hw, b1, b2, b0, b3]
  have hrep : List.replicate (A.length + B.length) [PV.int .u32 0] = enc (List.replicate (A.length + B.length) 0) := by simp [enc]
  refine vc_loop .wide (muI A B) (fun y => y.1 ≤ A.length ∧ OkL y.2 ∧ y.2.length = A.length + B.length ∧ val y.2 = val (A.take y.1) * b ∧ ∀ k, y.1 + B.length ≤ k → k < A.length + B.length → y.2[k]? = some 0) (fun y => A.length - y.1)
    ⟨0, List.replicate (A.length + B.length) 0⟩ ⟨by simp, by simp [OkL], by simp, ?_, ?_⟩ ?_ ?_
  · rw [val_zeros (by simp)]; simp [val]
  · intro k h1 h2; simp [h2]
  · exact sub_iff (by simp [muI, hrep])
  · rintro ⟨i, cur⟩ ⟨h1, h2, h3, h4, h5⟩ Q g1 g2
    simp only at h1 h2 h3 h4 h5
    by_cases hi : i = A.length
    · subst hi
      simp [muI]
      refine g2 _ _ (by simp) ?_
      simp
      refine oks_callz [18] .wide [.sl none 1 (enc cur) []] (t_trim none cur [] h2) (by simp) (by simp [h3]; rfl) (by simp; exact List.take_of_length_le (by simp [h3])) ?_
      rintro _ rfl
      refine oks_vc .wide ?_
      rw [h4, List.take_length, vA]
      simp [encNat]
      exact hK _ _ rfl (by simp [encNat])
    · have hlt : i < A.length := by omega
      have hx : A[i] < 4294967296 := okA _ (List.getElem_mem hlt)
      simp [muI, hlt]
      refine vc_loop .wide (muJ A B i A[i]) (fun z => z.1 ≤ B.length ∧ z.2.1 < 4294967296 ∧ OkL z.2.2 ∧ z.2.2.length = A.length + B.length ∧ val z.2.2 + z.2.1 * 4294967296 ^ (i + z.1) = val cur + 4294967296 ^ i * (A[i] * val (B.take z.1)) ∧ ∀ k, i + B.length ≤ k → k < A.length + B.length → z.2.2[k]? = some 0) (fun z => B.length - z.1)
        ⟨0, 0, cur⟩ ⟨by simp, by simp, h2, h3, by simp [val], h5⟩ ?_ ?_
      · exact sub_iff (by simp [muJ])
      · rintro ⟨j, c, cr⟩ ⟨j1, j2, j3, j4, j5, j6⟩ Q' g1' g2'
        simp only at j1 j2 j3 j4 j5 j6
        by_cases hj : j = B.length
        · subst hj
          simp [muJ]
          refine g2' _ _ (by simp) ?_
          have hz := j6 (i + B.length) (Nat.le_refl _) (by omega)
          obtain ⟨k, hk⟩ : ∃ k, k = i + B.length := ⟨_, rfl⟩
          have hw1 : IntKind.i64.wrap ((i : Int) + (B.length : Int)) = (k : Int) := by rw [wrap_i64 (by omega)]; omega
          have hw2 : IntKind.i64.wrap ((i : Int) + 1) = (i : Int) + 1 := wrap_i64 (by omega)
          have hc : c % 4294967296 = c := Nat.mod_eq_of_lt j2
          have hlt' : i + B.length < cr.length := by omega
          rw [← hk] at hz hlt' j5
          have hvs := val_set (v := c) hlt'
          have e0 : cr[k] = 0 := by rw [List.getElem?_eq_getElem hlt'] at hz; exact Option.some.inj hz
          simp [hw1, hz, hc, show (k : Int) < (A.length : Int) + (B.length : Int) by omega, show k < A.length + B.length by omega, hw2]
          refine g1 _ (i + 1, cr.set k c) ⟨by omega, set_ok j3 j2, by simp [j4], ?_, fun k' k1 k2 => ?_⟩ (by simp; omega) (sub_iff (by simp [muI]))
          · simp only
            rw [e0, Nat.mul_zero, Nat.add_zero] at hvs
            rw [hvs, Nat.mul_comm (4294967296 ^ k) c, j5, h4, List.take_length, vB, val_take_succ A i hlt, Nat.add_mul]
            congr 1
            rw [Nat.mul_assoc]
          · simp only at k1 ⊢
            rw [List.getElem?_set_ne (by omega)]
            exact j6 k' (by omega) k2
        · have hjl : j < B.length := by omega
          have hy : B[j] < 4294967296 := okB _ (List.getElem_mem hjl)
          have hij : i + j < cr.length := by omega
          have hd : cr[i + j] < 4294967296 := j3 _ (List.getElem_mem hij)
          obtain ⟨k, hk⟩ : ∃ k, k = i + j := ⟨_, rfl⟩
          have hw1 : IntKind.i64.wrap ((i : Int) + (j : Int)) = (k : Int) := by rw [wrap_i64 (by omega)]; omega
          have hw2 : IntKind.i64.wrap ((j : Int) + 1) = (j : Int) + 1 := wrap_i64 (by omega)
          rw [← hk] at hij j5
          have hd : cr[k] < 4294967296 := j3 _ (List.getElem_mem hij)
          have hfit := mul_fit j2 hx hy hd
          have hg : cr[k]? = some cr[k] := List.getElem?_eq_getElem hij
          have hA64 : A[i] % 18446744073709551616 = A[i] := Nat.mod_eq_of_lt (by omega)
          have hB64 : B[j] % 18446744073709551616 = B[j] := Nat.mod_eq_of_lt (by omega)
          have hC64 : cr[k] % 18446744073709551616 = cr[k] := Nat.mod_eq_of_lt (by omega)
          have hlt' : k < A.length + B.length := by omega
          have hvs := val_set (v := (c + (A[i] * B[j] + cr[k])) % 4294967296) hij
          have hstep := mul_step j5 hvs
          have hm1 : A[i] * B[j] % 18446744073709551616 = A[i] * B[j] := Nat.mod_eq_of_lt (by omega)
          have hm2 : (A[i] * B[j] + cr[k]) % 18446744073709551616 = A[i] * B[j] + cr[k] := Nat.mod_eq_of_lt (by omega)
          have hm3 : (c + (A[i] * B[j] + cr[k])) % 18446744073709551616 = c + (A[i] * B[j] + cr[k]) := Nat.mod_eq_of_lt (by omega)
          have hm4 : (c + (A[i] * B[j] + cr[k])) % 4294967296 % 4294967296 = (c + (A[i] * B[j] + cr[k])) % 4294967296 := Nat.mod_mod _ _
          have hq : (c + (A[i] * B[j] + cr[k])) / 4294967296 < 4294967296 := by omega
          have hr : (c + (A[i] * B[j] + cr[k])) % 4294967296 < 4294967296 := Nat.mod_lt _ (by decide)
          simp [muJ, hjl, hw1, hg, hlt', show (k : Int) < (A.length : Int) + (B.length : Int) by omega, hA64, hB64, hC64, hm1, hm2, hm3, hw2]
          refine g1' _ (j + 1, (c + (A[i] * B[j] + cr[k])) / 4294967296, cr.set k ((c + (A[i] * B[j] + cr[k])) % 4294967296)) ⟨by omega, hq, set_ok j3 hr, by simp [j4], ?_, fun k' k1 k2 => ?_⟩ (by simp; omega) (sub_iff (by simp [muJ]))
          · simp only
            rw [show i + (j + 1) = k + 1 by omega, Nat.pow_succ, hstep, val_take_succ B j hjl, Nat.mul_add, Nat.mul_add, Nat.add_assoc]
            congr 2
            rw [hk, Nat.pow_add, Nat.mul_assoc, Nat.mul_left_comm A[i]]
          · simp only at k1 ⊢
            rw [List.getElem?_set_ne (by omega)]
            exact j6 k' (by omega) k2
end Go.Dl
set_option linter.unusedVariables false
set_option linter.unusedSimpArgs false
namespace Go.Proofs
set_option maxHeartbeats 4000000 in
set_option maxRecDepth 100000 in
theorem walk_Len32 (x : Int) (w : World) (h0 : 0 ≤ x) (h1 : x ≤ 4294967295) :
    Calls Tryd.prog 122 #[.int .u32 x] w fun e w' => e = .returned (.int .i64 (Lib.bitLen x.toNat)) ∧ w' = w := by
  go_enter Tryd.func122, Tryd.ntmps122
  go_wp2
  all_goals (go_ret; refine ⟨congrArg Ending.returned (congrArg (Value.int IntKind.i64) ?_), rfl⟩)
  all_goals first
    | (rw [Lib.len8_of (x / 65536 / 256 % 256) (by omega) (by omega)]
       have e : (x / 65536 / 256 % 256).toNat = x.toNat / 16777216 := by omega
       have l := Lib.bitLen_le8' (x / 65536 / 256 % 256) (by omega) (by omega)
       have s := Lib.bitLen_shift24 x.toNat (by omega) (by omega)
       rw [e] at l ⊢
       omega)
    | (rw [Lib.len8_of (x / 65536 % 256) (by omega) (by omega)]
       have e : (x / 65536 % 256).toNat = x.toNat / 65536 := by omega
       have l := Lib.bitLen_le8' (x / 65536 % 256) (by omega) (by omega)
       have s := Lib.bitLen_shift16 x.toNat (by omega) (by omega)
       rw [e] at l ⊢
       omega)
    | (rw [Lib.len8_of (x / 256 % 256) (by omega) (by omega)]
       have e : (x / 256 % 256).toNat = x.toNat / 256 := by omega
       have l := Lib.bitLen_le8' (x / 256 % 256) (by omega) (by omega)
       have s := Lib.bitLen_shift8 x.toNat (by omega) (by omega)
       rw [e] at l ⊢
       omega)
    | (rw [Lib.len8_of (x % 256) (by omega) (by omega)]
       have e : (x % 256).toNat = x.toNat := by omega
       have l := Lib.bitLen_le8' (x % 256) (by omega) (by omega)
       rw [e] at l ⊢
       omega)
end Go.Proofs
set_option maxRecDepth 1000000
namespace Go.Dl
open Go.Proofs
noncomputable def c_lz : { d : DFn // compF Tryd.prog 116 = some d } := by
  refine ⟨?_, ?_⟩
  rotate_left
  · conv => lhs; reduce

theorem t_len32 (x : Nat) (hx : x < 4294967296) : PCall Tryd.prog 122 [.int .u32 (U x)] (· = .int .i64 (Lib.bitLen x : Int)) := by
  intro w S vs hS hl hrel
  match vs, hl with
  | [v1], _ =>
    have h1 := hrel 0 _ v1 rfl rfl
    cases h1
    refine (walk_Len32 (U x) w (by unfold U; omega) (by unfold U; omega)).mono ?_
    rintro e w' ⟨rfl, rfl⟩
    exact ⟨_, _, rfl, rfl, Fr.refl _ _, .int _ _⟩
/-- how far a limb is shifted to have its highest bit set -/
def lz (x : Nat) : Nat := 32 - Lib.bitLen x
theorem lz_spec (x : Nat) (h0 : x ≠ 0) (hx : x < 4294967296) : lz x ≤ 31 ∧ 2147483648 ≤ x * 2 ^ lz x ∧ x * 2 ^ lz x < 4294967296 := by
  obtain ⟨h1, h2, h3⟩ := Lib.bitLenAux_bounds 64 x (by omega) h0
  have h4 := Lib.bitLen_le x 32 (by decide) (by omega)
  have e : Lib.bitLenAux 64 x = Lib.bitLen x := rfl
  rw [e] at h1 h2 h3
  unfold lz
  generalize Lib.bitLen x = b at *
  refine ⟨by omega, ?_, ?_⟩
  · have := Nat.mul_le_mul_right (2 ^ (32 - b)) h2
    rw [← Nat.pow_add, show b - 1 + (32 - b) = 31 by omega] at this
    exact this
  · have := Nat.mul_lt_mul_of_pos_right h3 (Nat.pow_pos (n := 32 - b) (by decide : 0 < 2))
    rw [← Nat.pow_add, show b + (32 - b) = 32 by omega] at this
    exact this
theorem t_lz (x : Nat) (hx : x < 4294967296) : PCall Tryd.prog 116 [.int .u32 (U x)] (· = .int .i64 (lz x : Int)) := by
  refine pcall_vc c_lz (by simp [c_lz]) fun x' K hK => ?_
  have h4 := Lib.bitLen_le x 32 (by decide) (by omega)
  have hw : IntKind.i64.wrap (32 - (Lib.bitLen x : Int)) = (lz x : Int) := by rw [wrap_i64 (by omega)]; unfold lz; omega
  simp [c_lz]
  refine oks_callz [] .wide [.int .u32 (U x)] (t_len32 x hx) (by simp) (by simp; rfl) (by simp) ?_
  rintro _ rfl
  refine oks_vc .wide ?_
  simp [hw]
  exact hK _ rfl
end Go.Dl
set_option linter.unusedVariables false
set_option linter.unusedSimpArgs false
set_option maxRecDepth 1000000
namespace Go.Dl
open Go.Proofs

theorem ev_dec64 (a : Nat) (h : 0 < a) (h' : a < 18446744073709551616) : evBin .sub (.int .u64 (U a)) (.int .u64 1) = some (.int .u64 (U (a - 1))) := by
  simp only [evBin, if_true, IntKind.wrap_u64]; unfold U; congr 2; omega
theorem ev_dec64' (a : Nat) : evBin .sub (.int .u64 (U a)) (.int .u64 1) = some (.int .u64 (U ((a + 18446744073709551615) % 18446744073709551616))) := by
  simp only [evBin, if_true, IntKind.wrap_u64]; unfold U; congr 2; omega
/-- what guess tells of the three highest limbs u3 u2 u1 and the two t s -/
def Guess (u3 u2 u1 t s q : Nat) : Prop := q < 4294967296 ∧ q * (t * 4294967296 + s) ≤ (u3 * 4294967296 + u2) * 4294967296 + u1 ∧
  ∀ q', q < q' → q' < 4294967296 → (u3 * 4294967296 + u2) * 4294967296 + u1 < q' * (t * 4294967296 + s)

theorem gen_next {W two t s u1 q rest : Nat} (h : q * t + rest = two) (hc : rest * W + u1 < q * s) : two * W + u1 < q * (t * W + s) := by
  rw [← h, Nat.mul_add, ← Nat.mul_assoc, Nat.add_mul]
  omega
theorem gen_stop {W two t s u1 q rest : Nat} (h : q * t + rest = two) (hc : q * s ≤ rest * W + u1) : q * (t * W + s) ≤ two * W + u1 := by
  rw [← h, Nat.mul_add, ← Nat.mul_assoc, Nat.add_mul]
  omega
theorem gen_init {W two t s u1 q' : Nat} (h1 : u1 < W) (h2 : two < q' * t) : two * W + u1 < q' * (t * W + s) := by
  have h3 := Nat.mul_le_mul_right W (show two + 1 ≤ q' * t from h2)
  rw [Nat.mul_add, ← Nat.mul_assoc]
  rw [Nat.add_mul] at h3
  omega
theorem guess_init {two t s u1 : Nat} (ht : 2147483648 ≤ t) (hs : s < 4294967296) (h1 : u1 < 4294967296) (h : two ≤ t * 4294967296 + s) :
    two / t ≤ 4294967297 ∧ ∀ q', two / t < q' → two * 4294967296 + u1 < q' * (t * 4294967296 + s) := by
  constructor
  · refine Nat.le_of_lt_succ ((Nat.div_lt_iff_lt_mul (by omega)).2 ?_)
    omega
  · intro q' hq
    rw [Nat.div_lt_iff_lt_mul (by omega)] at hq
    exact gen_init h1 hq
theorem guess_next {two t s u1 q rest : Nat} (h : q * t + rest = two) (hc : rest * 4294967296 + u1 < q * s) : two * 4294967296 + u1 < q * (t * 4294967296 + s) := gen_next h hc
theorem guess_stop {two t s u1 q rest : Nat} (h : q * t + rest = two) (hc : q * s ≤ rest * 4294967296 + u1) : q * (t * 4294967296 + s) ≤ two * 4294967296 + u1 := gen_stop h hc
theorem guess_over {two t s u1 q rest : Nat} (ht : 2147483648 ≤ t) (hs : s < 4294967296) (h : q * t + rest = two) (hle : two ≤ t * 4294967296 + s) (hr : 4294967295 < rest) : q < 4294967296 ∧ q * s ≤ rest * 4294967296 + u1 := by
  have hq : q < 4294967296 := by
    refine Nat.lt_of_not_le fun h' => ?_
    have := Nat.mul_le_mul_right t h'
    omega
  refine ⟨hq, ?_⟩
  have := Nat.mul_le_mul (show q ≤ 4294967295 by omega) (show s ≤ 4294967295 by omega)
  omega
theorem mul_small {a b : Nat} (ha : a < 4294967296) (hb : b < 4294967296) : a * b < 18446744073709551616 := by
  have := Nat.mul_le_mul (show a ≤ 4294967295 by omega) (show b ≤ 4294967295 by omega)
  omega

def guI (u v : List Nat) (n t two : Nat) (y : Nat × Nat) : St := ⟨67, [(8, .p (.int .u64 (U y.1))), (9, .p (.int .u64 (U y.2))), (7, .p (.int .u64 (U two))), (6, .p (.int .u64 (U t))), (5, .p (.int .i64 ((n : Int) + 2))), (0, .p (.sl none 1 (enc u) [])), (1, .p (.sl none 1 (enc v) []))], []⟩

theorem t_guess (u v : List Nat) (n u3 u2 u1 t s : Nat) (hv : v.length = n + 2) (hu : u.length = n + 3) (hok : OkL u) (hokv : OkL v) (hn : n ≤ 1000000)
    (g3 : u[n + 2]? = some u3) (g2 : u[n + 1]? = some u2) (g1 : u[n]? = some u1) (gt : v[n + 1]? = some t) (gs : v[n]? = some s)
    (ht : 2147483648 ≤ t) (hle : u3 * 4294967296 + u2 ≤ t * 4294967296 + s) :
    PCall Tryd.prog 125 [.sl none 1 (enc u) [], .sl none 1 (enc v) []] (fun r => ∃ q, r = .int .u64 (U q) ∧ Guess u3 u2 u1 t s q) := by
  have m3 := hok u3 (List.mem_of_getElem? g3)
  have m2 := hok u2 (List.mem_of_getElem? g2)
  have m1 := hok u1 (List.mem_of_getElem? g1)
  have mt := hokv t (List.mem_of_getElem? gt)
  have ms := hokv s (List.mem_of_getElem? gs)
  obtain ⟨_, e3⟩ := List.getElem?_eq_some_iff.1 g3
  obtain ⟨_, e2⟩ := List.getElem?_eq_some_iff.1 g2
  obtain ⟨_, e1⟩ := List.getElem?_eq_some_iff.1 g1
  obtain ⟨_, et⟩ := List.getElem?_eq_some_iff.1 gt
  obtain ⟨_, es⟩ := List.getElem?_eq_some_iff.1 gs
  refine pcall_vc c_guess (by simp [c_guess]) fun x K hK => ?_
  have hw1 : IntKind.i64.wrap ((n : Int) + 2 - 1) = (n : Int) + 1 := by rw [wrap_i64 (by omega)]; omega
  have hw2 : IntKind.i64.wrap ((n : Int) + 2 - 2) = (n : Int) := by rw [wrap_i64 (by omega)]; omega
  obtain ⟨two, htwo⟩ : ∃ two, two = u3 * 4294967296 + u2 := ⟨_, rfl⟩
  have hor : (u3 * 4294967296 % 18446744073709551616 ||| u2) = two := by
    rw [Nat.mod_eq_of_lt (a := u3 * 4294967296) (by omega), htwo]
    exact or_limbs u3 u2 m2
  have a3 : u3 % 18446744073709551616 = u3 := Nat.mod_eq_of_lt (by omega)
  have a2 : u2 % 18446744073709551616 = u2 := Nat.mod_eq_of_lt (by omega)
  have at' : t % 18446744073709551616 = t := Nat.mod_eq_of_lt (by omega)
  have hle' : two ≤ t * 4294967296 + s := by omega
  have htq : two / t % 18446744073709551616 = two / t := Nat.mod_eq_of_lt (Nat.lt_of_le_of_lt (Nat.div_le_self _ _) (by omega))
  obtain ⟨i1, i2⟩ := guess_init ht ms m1 hle'
  simp [c_guess, hv, hw1, show (0 : Int) ≤ (n : Int) + 1 by omega, show (n : Int) + 1 < (n : Int) + 2 by omega, show ((n : Int) + 1).toNat = n + 1 by omega, et, at']
  refine vc_draw .wide rfl ?_
  simp [hu, hw1, show (0 : Int) ≤ (n : Int) + 2 by omega, show (n : Int) + 2 < (n : Int) + 3 by omega, show ((n : Int) + 2).toNat = n + 2 by omega, show (0 : Int) ≤ (n : Int) + 1 by omega, show (n : Int) + 1 < (n : Int) + 3 by omega, show ((n : Int) + 1).toNat = n + 1 by omega, e3, e2, a3, a2, hor]
  refine vc_draw .wide rfl ?_
  simp [show ¬ t = 0 by omega, htq]
  refine vc_loop .wide (guI u v n t two) (fun y => y.1 * t + y.2 = two ∧ y.1 ≤ 4294967297 ∧ y.2 < 4294967296 ∧ ∀ q', y.1 < q' → q' < 4294967296 → two * 4294967296 + u1 < q' * (t * 4294967296 + s)) (fun y => y.1)
    ⟨two / t, two % t⟩ ⟨by rw [Nat.mul_comm]; exact Nat.div_add_mod two t, i1, Nat.lt_trans (Nat.mod_lt _ (by omega)) mt, fun q' h _ => i2 q' h⟩ (sub_iff (by simp [guI])) ?_
  rintro ⟨q, rest⟩ ⟨h1, h2, h3, h4⟩ Q k1 k2
  simp only at h1 h2 h3 h4
  have fin : q < 4294967296 → q * s ≤ rest * 4294967296 + u1 → K (.int .u64 (U q)) := fun e1 e2 => hK _ ⟨q, rfl, e1, by rw [← htwo]; exact guess_stop h1 e2, fun q' e3 e4 => by rw [← htwo]; exact h4 q' e3 e4⟩
  simp [guI]
  refine vc_draw .wide rfl ?_
  have hrt : (rest + t) % 18446744073709551616 = rest + t := Nat.mod_eq_of_lt (by omega)
  have step : 0 < q → (q < 4294967296 → two * 4294967296 + u1 < q * (t * 4294967296 + s)) → (q - 1) * t + (rest + t) = two ∧ ∀ q', q - 1 < q' → q' < 4294967296 → two * 4294967296 + u1 < q' * (t * 4294967296 + s) := by
    intro hq0 hq
    constructor
    · obtain ⟨m, rfl⟩ : ∃ m, q = m + 1 := ⟨q - 1, by omega⟩
      rw [Nat.add_mul] at h1
      simp only [Nat.add_sub_cancel]
      omega
    · intro q' e1 e2
      by_cases e : q' = q
      · rw [e]; rw [e] at e2; exact hq e2
      · exact h4 q' (by omega) e2
  have fin2 : 0 < q → (q < 4294967296 → two * 4294967296 + u1 < q * (t * 4294967296 + s)) → 4294967295 < rest + t → K (.int .u64 (U (q - 1))) := by
    intro hq0 hq hr
    obtain ⟨s1, s2⟩ := step hq0 hq
    obtain ⟨s3, s4⟩ := guess_over (u1 := u1) ht ms s1 hle' hr
    exact hK _ ⟨q - 1, rfl, s3, by rw [← htwo]; exact guess_stop s1 s4, fun q' e3 e4 => by rw [← htwo]; exact s2 q' e3 e4⟩
  have hd1 : 0 < q → (q + 18446744073709551615) % 18446744073709551616 = q - 1 := fun h => by omega
  by_cases hq : 4294967295 < q
  · have hno : q < 4294967296 → two * 4294967296 + u1 < q * (t * 4294967296 + s) := fun h => by omega
    obtain ⟨s1, s2⟩ := step (by omega) hno
    have d1 : decide (4294967295 < q) = true := decide_eq_true hq
    simp [d1, ev_dec64', hrt, hd1 (by omega)]
    refine ⟨fun hr => k2 _ _ (by simp) ?_, fun hr => k1 _ (q - 1, rest + t) ⟨s1, by omega, by omega, s2⟩ (by simp only; omega) (sub_iff (by simp [guI]))⟩
    simp
    exact fin2 (by omega) hno hr
  · have d1 : decide (4294967295 < q) = false := decide_eq_false hq
    have hqs : q * s % 18446744073709551616 = q * s := Nat.mod_eq_of_lt (mul_small (by omega) ms)
    have hs64 : s % 18446744073709551616 = s := Nat.mod_eq_of_lt (by omega)
    have hu64 : u1 % 18446744073709551616 = u1 := Nat.mod_eq_of_lt (by omega)
    have hor1 : (rest * 4294967296 % 18446744073709551616 ||| u1) = rest * 4294967296 + u1 := by
      rw [Nat.mod_eq_of_lt (a := rest * 4294967296) (by omega)]
      exact or_limbs rest u1 m1
    have hw3 : IntKind.i64.wrap (n : Int) = (n : Int) := wrap_i64 (by omega)
    have i1 : n < n + 2 := by omega
    have i2 : n < n + 3 := by omega
    have i3 : (n : Int) < (n : Int) + 2 := by omega
    have i4 : (n : Int) < (n : Int) + 3 := by omega
    simp [d1, ev_dec64', hrt, hw2, hw3, hu, hv, i1, i2, i3, i4, es, e1, hqs, hs64, hu64, hor1]
    refine ⟨fun hc => ?_, fun hc => ?_⟩
    · have hq0 : 0 < q := Nat.pos_of_ne_zero fun e => by rw [e, Nat.zero_mul] at hc; omega
      rw [hd1 hq0]
      have hno : q < 4294967296 → two * 4294967296 + u1 < q * (t * 4294967296 + s) := fun _ => guess_next h1 hc
      obtain ⟨s1, s2⟩ := step hq0 hno
      refine ⟨fun hr => k2 _ _ (by simp) ?_, fun hr => k1 _ (q - 1, rest + t) ⟨s1, by omega, by omega, s2⟩ (by simp only; omega) (sub_iff (by simp [guI]))⟩
      simp
      exact fin2 hq0 hno hr
    · refine k2 _ _ (by simp) ?_
      simp
      exact fin (by omega) (by omega)
end Go.Dl
set_option linter.unusedVariables false
set_option linter.unusedSimpArgs false
set_option maxRecDepth 1000000
namespace Go.Dl
open Go.Proofs

theorem sub_digit (a lo b : Nat) (ha : a < 4294967296) (hlo : lo < 4294967296) (hb : b ≤ 1) : ∃ d1 d, evBin .sub (.int .u64 (U a)) (.int .u64 (U lo)) = some (.int .u64 (U d1)) ∧ evBin .sub (.int .u64 (U d1)) (.int .u64 (U b)) = some (.int .u64 (U d)) ∧
    d % 4294967296 + lo + b = a + 4294967296 * (d / 4294967296 % 2) := by
  refine ⟨_, _, ev_sub64 a lo, ev_sub64 _ b, ?_⟩
  rw [Nat.mod_eq_of_lt (a := lo) (by omega), Nat.mod_eq_of_lt (a := b) (by omega)]
  omega

/-- the walk of the first loop, over W -/
theorem st1_step {W V V' q vt v c b u dg b' s P Z : Nat} (h : V + q * vt = Z + (b + c) * P) (hs : V' + P * u = V + P * dg) (hd : dg + s % W + b = u + W * b') (hsum : s = c + q * v) :
    V' + q * (vt + P * v) = Z + (b' + s / W) * (P * W) := by
  have h1 : P * (dg + s % W + b) = P * (u + W * b') := by rw [hd]
  have h2 : P * s = P * (c + q * v) := by rw [hsum]
  have h3 := congrArg (P * ·) (Nat.div_add_mod s W)
  simp only [Nat.mul_add] at h1 h2 h3
  have e1 : q * (vt + P * v) = q * vt + P * (q * v) := by rw [Nat.mul_add, Nat.mul_left_comm]
  have e2 : (b' + s / W) * (P * W) = P * (W * b') + P * (W * (s / W)) := by
    rw [Nat.add_mul, Nat.mul_comm b', Nat.mul_comm (s / W), Nat.mul_assoc, Nat.mul_assoc]
  have e3 : (b + c) * P = P * b + P * c := by rw [Nat.add_mul, Nat.mul_comm b, Nat.mul_comm c]
  rw [e1, e2]
  rw [e3] at h
  omega
/-- the walk of the second loop -/
theorem st2_step {W V V' vt v c u s P Z : Nat} (h : V + c * P = Z + vt) (hs : V' + P * u = V + P * (s % W)) (hsum : s = c + v + u) : V' + (s / W) * (P * W) = Z + (vt + P * v) := by
  have h2 : P * s = P * (c + v + u) := by rw [hsum]
  have h3 := congrArg (P * ·) (Nat.div_add_mod s W)
  simp only [Nat.mul_add] at h2 h3
  have e2 : (s / W) * (P * W) = P * (W * (s / W)) := by rw [Nat.mul_comm (s / W), Nat.mul_assoc]
  rw [e2]
  rw [Nat.mul_comm c] at h
  omega
/-- what the guess and the borrow tell -/
theorem st_low {U V A q b T : Nat} (hV : 0 < V) (hA : A < T) (h : A + q * V = U + b * T) (hb : b = 0) (hq : U / V ≤ q) : q = U / V ∧ A = U % V := by
  subst hb
  rw [Nat.zero_mul, Nat.add_zero] at h
  have h1 : q ≤ U / V := (Nat.le_div_iff_mul_le hV).2 (by omega)
  have h2 : q = U / V := by omega
  refine ⟨h2, ?_⟩
  have := Nat.div_add_mod U V
  rw [Nat.mul_comm, ← h2] at this
  omega
theorem st_high {U V A A2 q T c : Nat} (hV : 0 < V) (hVT : V ≤ T) (hA : A < T) (h : A + q * V = U + T) (hq : q ≤ U / V + 1) (hA2 : A2 < T) (h2 : A2 + c * T = A + V) : q - 1 = U / V ∧ A2 = U % V ∧ 0 < q := by
  have h1 : U < q * V := by omega
  have h3 : U / V < q := (Nat.div_lt_iff_lt_mul hV).2 h1
  have h4 : q = U / V + 1 := by omega
  have h5 := Nat.div_add_mod U V
  have h6 := Nat.mod_lt U hV
  rw [Nat.mul_comm] at h5
  rw [h4, Nat.add_mul, Nat.one_mul] at h
  rw [h4]
  clear h3 h1 hq h4
  generalize U / V * V = QV at *
  generalize U / V = Q at *
  generalize U % V = R at *
  have hc : c = 1 := by
    rcases Nat.lt_trichotomy c 1 with hc | hc | hc
    · have : c = 0 := by omega
      subst this
      omega
    · exact hc
    · have := Nat.mul_le_mul_right T (show 2 ≤ c from hc)
      omega
  subst hc
  exact ⟨by omega, by omega, by omega⟩
theorem pw3 {W : Nat} (x a b c P0 P1 : Nat) {P2 : Nat} (h1 : P1 = P0 * W) (h2 : P2 = P1 * W) : x + P0 * a + P1 * b + P2 * c = x + P0 * ((c * W + b) * W + a) := by
  subst h1 h2
  simp only [Nat.mul_add, Nat.add_mul, Nat.mul_assoc, Nat.mul_left_comm c, Nat.mul_comm b W, Nat.mul_comm c]
  omega
theorem pw2 {W : Nat} (x a b P0 : Nat) {P1 : Nat} (h1 : P1 = P0 * W) : x + P0 * a + P1 * b = x + P0 * (b * W + a) := by
  subst h1
  rw [Nat.mul_add, Nat.mul_assoc, Nat.mul_comm W b]
  omega
theorem near_le {W P U U' two u1 V V' V2 : Nat} (hP : 0 < P) (hU : U = U' + P * (two * W + u1)) (hV : V = V' + P * V2) (hV' : V' < P) (h1 : u1 < W) (hlt : U < W * V) : two ≤ V2 := by
  have h2 : W * V < W * (P * (V2 + 1)) := by
    rcases Nat.eq_zero_or_pos W with h | h
    · subst h; omega
    · exact Nat.mul_lt_mul_of_pos_left (by rw [Nat.mul_add]; omega) h
  have h3 : P * (two * W) < P * (W * (V2 + 1)) := by
    rw [Nat.mul_add] at hU
    rw [Nat.mul_left_comm P W]
    omega
  have h4 := Nat.lt_of_mul_lt_mul_left h3
  rw [Nat.mul_comm two] at h4
  exact Nat.le_of_lt_succ (Nat.lt_of_mul_lt_mul_left h4)
/-- the guess is near -/
theorem guess_near {P U U' U3 V V' V2 W q : Nat} (hP : 0 < P) (hU : U = U' + P * U3) (hU' : U' < P) (hV : V = V' + P * V2) (hV' : V' < P) (hW : W ≤ V2) (hlt : U < W * V) (hq : q < W) (h1 : q * V2 ≤ U3)
    (h2 : ∀ q', q < q' → q' < W → U3 < q' * V2) : U / V ≤ q ∧ q ≤ U / V + 1 := by
  have hV0 : 0 < V := by
    rcases Nat.eq_zero_or_pos V with h | h
    · rw [h] at hlt; omega
    · exact h
  constructor
  · refine Nat.le_of_not_lt fun h => ?_
    have hQ : U / V < W := (Nat.div_lt_iff_lt_mul hV0).2 hlt
    have h3 := h2 _ h hQ
    have h4 : U / V * V ≤ U := Nat.div_mul_le_self U V
    have h5 : U / V * (P * V2) ≤ U / V * V := Nat.mul_le_mul_left _ (by omega)
    have h6 : P * (U3 + 1) ≤ P * (U / V * V2) := Nat.mul_le_mul_left _ h3
    rw [Nat.mul_add, Nat.mul_left_comm P] at h6
    omega
  · refine Nat.le_of_not_lt fun h => ?_
    have h3 : U < (U / V + 1) * V := by
      rw [Nat.add_mul, Nat.one_mul]
      have := Nat.div_add_mod U V
      have := Nat.mod_lt U hV0
      rw [Nat.mul_comm]
      omega
    generalize U / V = Q at *
    have h4 : (Q + 2) * V2 ≤ U3 := Nat.le_trans (Nat.mul_le_mul_right _ h) h1
    have h5 : P * ((Q + 2) * V2) ≤ P * U3 := Nat.mul_le_mul_left _ h4
    have h6 : (Q + 1) * V ≤ (Q + 1) * (P * (V2 + 1)) := Nat.mul_le_mul_left _ (by rw [Nat.mul_add]; omega)
    have h7 : P * ((Q + 2) * V2) < P * ((Q + 1) * (V2 + 1)) := by
      rw [Nat.mul_left_comm P (Q + 1)]
      omega
    have h8 : (Q + 2) * V2 < (Q + 1) * (V2 + 1) := Nat.lt_of_mul_lt_mul_left h7
    rw [Nat.mul_add, Nat.mul_one, show Q + 2 = Q + 1 + 1 by omega, Nat.add_mul (Q + 1) 1] at h8
    omega

def spI (pre post v : List Nat) (n room q : Nat) (y : Nat × Nat × Nat × List Nat) : St := ⟨93, [(16, .p (.int .i64 (y.1 : Int))), (15, .p (.int .i64 ((n : Int) + 3))), (6, .p (.int .u64 (U y.2.1))), (7, .p (.int .u64 (U y.2.2.1))), (5, .p (.int .u64 (U q))), (0, .own 1000 1 pre.length (n + 3) room), (1, .p (.sl none 1 (enc v) []))], [(1000, ⟨false, 1, .p (enc (pre ++ (y.2.2.2 ++ post)))⟩)]⟩
def spJ (pre post v : List Nat) (n room q : Nat) (y : Nat × Nat × List Nat) : St := ⟨93, [(60, .p (.int .i64 (y.1 : Int))), (59, .p (.int .i64 ((n : Int) + 3))), (7, .p (.int .u64 (U y.2.1))), (5, .p (.int .u64 (U q))), (0, .own 1000 1 pre.length (n + 3) room), (1, .p (.sl none 1 (enc v) []))], [(1000, ⟨false, 1, .p (enc (pre ++ (y.2.2 ++ post)))⟩)]⟩

theorem mid_get {pre cur post : List Nat} {i : Nat} (h : i < cur.length) : (pre ++ (cur ++ post))[pre.length + i]? = some cur[i] := by
  rw [List.getElem?_append_right (by omega), show pre.length + i - pre.length = i by omega, List.getElem?_append_left h, List.getElem?_eq_getElem h]
theorem mid_set {pre cur post : List Nat} {i x : Nat} (h : i < cur.length) : (pre ++ (cur ++ post)).set (pre.length + i) x = pre ++ (cur.set i x ++ post) := by
  rw [List.set_append_right _ _ (by omega), show pre.length + i - pre.length = i by omega, List.set_append_left _ _ h]
theorem mid_cut {pre cur post : List Nat} : ((pre ++ (cur ++ post)).drop pre.length).take cur.length = cur := by simp

theorem val_top (l : List Nat) (n : Nat) (h : l.length = n + 1) : ∃ d, l[n]? = some d ∧ val l = val (l.take n) + 4294967296 ^ n * d := by
  refine ⟨l[n], List.getElem?_eq_getElem _, ?_⟩
  have := val_take_succ l n (by omega)
  rwa [List.take_of_length_le (by omega)] at this
theorem okL_take {l : List Nat} (h : OkL l) (n : Nat) : OkL (l.take n) := fun d hd => h d (List.mem_of_mem_take hd)

theorem step_guess {u v : List Nat} {n u3 u2 u1 t s : Nat} (hv : v.length = n + 2) (hu : u.length = n + 3) (hok : OkL u) (hokv : OkL v)
    (g3 : u[n + 2]? = some u3) (g2 : u[n + 1]? = some u2) (g1 : u[n]? = some u1) (gt : v[n + 1]? = some t) (gs : v[n]? = some s)
    (ht : 2147483648 ≤ t) (hlt : val u < 4294967296 * val v) :
    u3 * 4294967296 + u2 ≤ t * 4294967296 + s ∧ ∀ q, Guess u3 u2 u1 t s q → val u / val v ≤ q ∧ q ≤ val u / val v + 1 := by
  have lu : ∀ k d, k < n + 3 → u[k]? = some d → val (u.take (k + 1)) = val (u.take k) + 4294967296 ^ k * d := fun k d hk hd => by
    have := val_take_succ u k (by omega)
    rw [List.getElem?_eq_getElem (by omega)] at hd
    rw [this, Option.some.inj hd]
  have lv : ∀ k d, k < n + 2 → v[k]? = some d → val (v.take (k + 1)) = val (v.take k) + 4294967296 ^ k * d := fun k d hk hd => by
    have := val_take_succ v k (by omega)
    rw [List.getElem?_eq_getElem (by omega)] at hd
    rw [this, Option.some.inj hd]
  have eU : val u = val (u.take n) + 4294967296 ^ n * ((u3 * 4294967296 + u2) * 4294967296 + u1) := by
    have h1 := lu n u1 (by omega) g1
    have h2 := lu (n + 1) u2 (by omega) g2
    have h3 := lu (n + 2) u3 (by omega) g3
    rw [List.take_of_length_le (by omega)] at h3
    rw [h3, h2, h1]
    exact pw3 _ _ _ _ _ _ (Nat.pow_succ ..) (Nat.pow_succ ..)
  have eV : val v = val (v.take n) + 4294967296 ^ n * (t * 4294967296 + s) := by
    have h1 := lv n s (by omega) gs
    have h2 := lv (n + 1) t (by omega) gt
    rw [List.take_of_length_le (by omega)] at h2
    rw [h2, h1]
    exact pw2 _ _ _ _ (Nat.pow_succ ..)
  have hPu : val (u.take n) < 4294967296 ^ n := by
    have := val_lt (okL_take hok n)
    rwa [List.length_take, Nat.min_eq_left (by omega)] at this
  have hPv : val (v.take n) < 4294967296 ^ n := by
    have := val_lt (okL_take hokv n)
    rwa [List.length_take, Nat.min_eq_left (by omega)] at this
  have hP : 0 < 4294967296 ^ n := Nat.pow_pos (by decide)
  have m1 := hok u1 (List.mem_of_getElem? g1)
  constructor
  · exact near_le hP eU eV hPv m1 hlt
  · rintro q ⟨k1, k2, k3⟩
    exact guess_near hP eU hPu eV hPv (by omega) hlt k1 k2 k3

theorem t_step (pre u post v : List Nat) (n room t : Nat) (hn : n ≤ 900000) (hpre : pre.length ≤ 1000000) (hroom : n + 3 ≤ room) (hv : v.length = n + 2) (hu : u.length = n + 3) (hok : OkL u) (hokv : OkL v)
    (gt : v[n + 1]? = some t) (ht : 2147483648 ≤ t) (hlt : val u < 4294967296 * val v) :
    MCall Tryd.prog 118 [.own 1000 1 pre.length (n + 3) room, .p (.sl none 1 (enc v) [])] [(1000, ⟨false, 1, .p (enc (pre ++ (u ++ post)))⟩)]
      (fun r H => ∃ u', u'.length = n + 3 ∧ OkL u' ∧ val u' = val u % val v ∧ r = .p (.int .u32 (U (val u / val v))) ∧ lk H 1000 = some ⟨false, 1, .p (enc (pre ++ (u' ++ post)))⟩) := by
  obtain ⟨u3, g3⟩ : ∃ d, u[n + 2]? = some d := ⟨_, List.getElem?_eq_getElem (by omega)⟩
  obtain ⟨u2, g2⟩ : ∃ d, u[n + 1]? = some d := ⟨_, List.getElem?_eq_getElem (by omega)⟩
  obtain ⟨u1, g1⟩ : ∃ d, u[n]? = some d := ⟨_, List.getElem?_eq_getElem (by omega)⟩
  obtain ⟨s0, gs⟩ : ∃ d, v[n]? = some d := ⟨_, List.getElem?_eq_getElem (by omega)⟩
  obtain ⟨hle, hnear⟩ := step_guess hv hu hok hokv g3 g2 g1 gt gs ht hlt
  have hV0 : 0 < val v := by
    rcases Nat.eq_zero_or_pos (val v) with h | h
    · rw [h] at hlt; omega
    · exact h
  refine mcall_vc c_step (by simp [c_step]) (by simp [c_step]) fun x K hK => ?_
  have hcut : ((enc (pre ++ (u ++ post))).drop pre.length).take (n + 3) = enc u := by
    rw [enc_drop, enc_take, ← hu, mid_cut]
  have hlen : (enc (pre ++ (u ++ post))).length = pre.length + ((n + 3) + post.length) := by simp [hu]
  simp [c_step]
  refine oks_callsz .wide (ps := [.sl none 1 (enc u) [], .sl none 1 (enc v) []]) [.sl none 1 (enc u) [], .sl none 1 (enc v) []] (t_guess u v n u3 u2 u1 t s0 hv hu hok hokv (by omega) g3 g2 g1 gt gs ht hle) (by simp)
    (by simp only [List.map_cons, List.map_nil]; simp [hcut, hu, show pre.length + (n + 3) ≤ pre.length + (n + 3 + post.length) by omega]) (by simp) (by rintro _ ⟨q, rfl, _⟩; rfl) ?_
  rintro _ ⟨q, rfl, hq⟩
  refine oks_vc .wide ?_
  obtain ⟨hq1, hq2⟩ := hnear q hq
  obtain ⟨hqW, _, _⟩ := hq
  simp
  refine vc_loop .wide (spI pre post v n room q) (fun y => y.1 ≤ n + 3 ∧ y.2.1 ≤ 1 ∧ y.2.2.1 < 4294967296 ∧ OkL y.2.2.2 ∧ y.2.2.2.length = n + 3 ∧ val y.2.2.2 + q * val (v.take y.1) = val u + (y.2.1 + y.2.2.1) * 4294967296 ^ y.1 ∧ (y.1 = n + 3 → y.2.2.1 = 0)) (fun y => n + 3 - y.1)
    ⟨0, 0, 0, u⟩ ⟨by simp, by simp, by simp, hok, hu, by simp [val], by simp⟩ (sub_iff (by simp [spI])) ?_
  rintro ⟨i, b, c, cur⟩ ⟨h1, h2, h3, h4, h5, h6, h7⟩ Q k1 k2
  simp only at h1 h2 h3 h4 h5 h6 h7
  by_cases hi : i = n + 3
  · subst hi
    simp [spI]
    refine k2 _ _ (by simp) ?_
    have hvt : v.take (n + 3) = v := List.take_of_length_le (by omega)
    have hc0 : c = 0 := h7 rfl
    subst hc0
    rw [hvt, Nat.add_zero] at h6
    have hAT : val cur < 4294967296 ^ (n + 3) := by have := val_lt h4; rwa [h5] at this
    have hVT : val v ≤ 4294967296 ^ (n + 3) := by
      have := val_lt hokv
      rw [hv] at this
      exact Nat.le_trans (Nat.le_of_lt this) (Nat.pow_le_pow_right (by decide) (by omega))
    have hq32 : q % 4294967296 = q := Nat.mod_eq_of_lt hqW
    by_cases hb0 : b = 0
    · obtain ⟨f1, f2⟩ := st_low hV0 hAT h6 hb0 hq1
      simp [hb0]
      refine hK _ _ ⟨cur, h5, h4, f2, by rw [← f1, hq32], by simp⟩
    · have hb1 : b = 1 := by omega
      subst hb1
      rw [Nat.one_mul] at h6
      simp
      refine vc_loop .wide (spJ pre post v n room q) (fun y => y.1 ≤ n + 3 ∧ y.2.1 < 2 ∧ OkL y.2.2 ∧ y.2.2.length = n + 3 ∧ val y.2.2 + y.2.1 * 4294967296 ^ y.1 = val cur + val (v.take y.1)) (fun y => n + 3 - y.1)
        ⟨0, 0, cur⟩ ⟨by simp, by simp, h4, h5, by simp [val]⟩ (sub_iff (by simp [spJ])) ?_
      rintro ⟨i, c, cr⟩ ⟨j1, j2, j3, j4, j5⟩ Q' k1' k2'
      simp only at j1 j2 j3 j4 j5
      by_cases hi : i = n + 3
      · subst hi
        rw [hvt] at j5
        have hAT' : val cr < 4294967296 ^ (n + 3) := by have := val_lt j3; rwa [j4] at this
        obtain ⟨f1, f2, f3⟩ := st_high hV0 hVT hAT h6 hq2 hAT' j5
        have hdec := ev_dec64 q f3 (by omega)
        have hq1' : (q - 1) % 4294967296 = q - 1 := Nat.mod_eq_of_lt (by omega)
        simp [spJ]
        refine k2' _ _ (by simp) ?_
        simp [hdec, hq1']
        refine hK _ _ ⟨cr, j4, j3, f2, by rw [← f1], by simp⟩
      · have hi3 : i < n + 3 := by omega
        obtain ⟨k, hk⟩ : ∃ k, k = pre.length + i := ⟨_, rfl⟩
        obtain ⟨ob, hob⟩ : ∃ ob, ob = pre ++ (cr ++ post) := ⟨_, rfl⟩
        have hic : i < cr.length := by omega
        have hcu : cr[i] < 4294967296 := j3 _ (List.getElem_mem hic)
        have hget : ob[k]? = some cr[i] := by rw [hob, hk]; exact mid_get hic
        have hset : ∀ x, ob.set k x = pre ++ (cr.set i x ++ post) := fun x => by rw [hob, hk]; exact mid_set hic
        have hw : IntKind.i64.wrap ((i : Int) + 1) = (i : Int) + 1 := wrap_i64 (by omega)
        have hcu64 : cr[i] % 18446744073709551616 = cr[i] := Nat.mod_eq_of_lt (by omega)
        have hII : (i : Int) < (n : Int) + 3 := by omega
        simp only [spJ, ← hob]
        by_cases hiv : i = n + 2
        · have hvt' : v.take (i + 1) = v.take i := by rw [List.take_of_length_le (by omega), List.take_of_length_le (by omega)]
          have hvs := val_set (v := (c + cr[i]) % 4294967296) hic
          have hst := st2_step (v := 0) j5 hvs (by omega)
          rw [Nat.mul_zero, Nat.add_zero, ← Nat.pow_succ] at hst
          have hm : (c + cr[i]) % 18446744073709551616 = c + cr[i] := Nat.mod_eq_of_lt (by omega)
          have hcl : (c + cr[i]) / 4294967296 < 2 := by omega
          simp [hII, hv, ← hk, show ¬ (i : Int) < (n : Int) + 2 by omega, hget, hcu64, hm, hset, hw]
          exact k1' _ (i + 1, (c + cr[i]) / 4294967296, cr.set i ((c + cr[i]) % 4294967296)) ⟨by omega, hcl, set_ok j3 (Nat.mod_lt _ (by decide)), by simp [j4], by simp only; rw [hvt']; exact hst⟩ (by simp only; omega) (sub_iff (by simp [spJ]))
        · have hiv2 : i < n + 2 := by omega
          have hvl : i < v.length := by omega
          have hvi : v[i] < 4294967296 := hokv _ (List.getElem_mem hvl)
          have hv64 : v[i] % 18446744073709551616 = v[i] := Nat.mod_eq_of_lt (by omega)
          have hvs := val_set (v := (c + v[i] + cr[i]) % 4294967296) hic
          have hst := st2_step j5 hvs rfl
          rw [← Nat.pow_succ] at hst
          have hm1 : (c + v[i]) % 18446744073709551616 = c + v[i] := Nat.mod_eq_of_lt (by omega)
          have hm : (c + v[i] + cr[i]) % 18446744073709551616 = c + v[i] + cr[i] := Nat.mod_eq_of_lt (by omega)
          have hcl : (c + v[i] + cr[i]) / 4294967296 < 2 := by omega
          simp [hII, hv, ← hk, show (i : Int) < (n : Int) + 2 by omega, hiv2, hget, hcu64, hv64, hm1, hm, hset, hw]
          exact k1' _ (i + 1, (c + v[i] + cr[i]) / 4294967296, cr.set i ((c + v[i] + cr[i]) % 4294967296)) ⟨by omega, hcl, set_ok j3 (Nat.mod_lt _ (by decide)), by simp [j4], by simp only; rw [val_take_succ v i hvl]; exact hst⟩ (by simp only; omega) (sub_iff (by simp [spJ]))
  · have hi3 : i < n + 3 := by omega
    obtain ⟨k, hk⟩ : ∃ k, k = pre.length + i := ⟨_, rfl⟩
    obtain ⟨ob, hob⟩ : ∃ ob, ob = pre ++ (cur ++ post) := ⟨_, rfl⟩
    have hic : i < cur.length := by omega
    have hcu : cur[i] < 4294967296 := h4 _ (List.getElem_mem hic)
    have hget : ob[k]? = some cur[i] := by rw [hob, hk]; exact mid_get hic
    have hset : ∀ x, ob.set k x = pre ++ (cur.set i x ++ post) := fun x => by rw [hob, hk]; exact mid_set hic
    have hw : IntKind.i64.wrap ((i : Int) + 1) = (i : Int) + 1 := wrap_i64 (by omega)
    have hcu64 : cur[i] % 18446744073709551616 = cur[i] := Nat.mod_eq_of_lt (by omega)
    have hII : (i : Int) < (n : Int) + 3 := by omega
    have hb64 : ∀ x : Nat, x % 2 ≤ 1 := fun x => by omega
    simp only [spI, ← hob]
    by_cases hiv : i = n + 2
    · obtain ⟨d1, d, e1, e2, e3⟩ := sub_digit cur[i] (c % 4294967296) b hcu (Nat.mod_lt _ (by decide)) h2
      have hvt : v.take (i + 1) = v.take i := by rw [List.take_of_length_le (by omega), List.take_of_length_le (by omega)]
      have hvs := val_set (v := d % 4294967296) hic
      have hst := st1_step (v := 0) (s := c) h6 hvs e3 (by omega)
      rw [Nat.mul_zero, Nat.add_zero, ← Nat.pow_succ] at hst
      have hc0 : c / 4294967296 = 0 := Nat.div_eq_of_lt h3
      have hcl : c / 4294967296 < 4294967296 := by omega
      simp [-ev_sub64, hII, hv, ← hk, show ¬ (i : Int) < (n : Int) + 2 by omega, hget, hcu64, e1, e2, hset, hw]
      refine k1 _ (i + 1, d / 4294967296 % 2, c / 4294967296, cur.set i (d % 4294967296)) ⟨by omega, hb64 _, hcl, set_ok h4 (Nat.mod_lt _ (by decide)), by simp [h5], by simp only; rw [hvt]; exact hst, fun _ => hc0⟩ (by simp only; omega) (sub_iff (by simp [spI]))
    · have hiv2 : i < n + 2 := by omega
      have hvl : i < v.length := by omega
      have hvi : v[i] < 4294967296 := hokv _ (List.getElem_mem hvl)
      have hqv := mul_small hqW hvi
      have hv64 : v[i] % 18446744073709551616 = v[i] := Nat.mod_eq_of_lt (by omega)
      have hm1 : q * v[i] % 18446744073709551616 = q * v[i] := Nat.mod_eq_of_lt hqv
      have hfit := mul_fit h3 hqW hvi (show (0 : Nat) < 4294967296 by decide)
      rw [Nat.add_zero] at hfit
      have hcl : (c + q * v[i]) / 4294967296 < 4294967296 := by omega
      have hm2 : (c + q * v[i]) % 18446744073709551616 = c + q * v[i] := Nat.mod_eq_of_lt hfit
      obtain ⟨d1, d, e1, e2, e3⟩ := sub_digit cur[i] ((c + q * v[i]) % 4294967296) b hcu (Nat.mod_lt _ (by decide)) h2
      have hvs := val_set (v := d % 4294967296) hic
      have hst := st1_step h6 hvs e3 rfl
      rw [← Nat.pow_succ, ← val_take_succ v i hvl] at hst
      simp [-ev_sub64, hII, hv, ← hk, show (i : Int) < (n : Int) + 2 by omega, hiv2, hget, hcu64, hv64, hm1, hm2, e1, e2, hset, hw]
      refine k1 _ (i + 1, d / 4294967296 % 2, (c + q * v[i]) / 4294967296, cur.set i (d % 4294967296)) ⟨by omega, hb64 _, hcl, set_ok h4 (Nat.mod_lt _ (by decide)), by simp [h5], hst, fun h => by omega⟩ (by simp only; omega) (sub_iff (by simp [spI]))
end Go.Dl
