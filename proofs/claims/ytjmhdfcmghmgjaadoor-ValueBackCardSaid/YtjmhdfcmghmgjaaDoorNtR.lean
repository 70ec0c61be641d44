/- Contracts of hornbeam/nat: step. -/
import Derived.Test.YtjmhdfcmghmgjaaDoorNtQ
set_option linter.unusedVariables false
set_option linter.unusedSimpArgs false
set_option maxRecDepth 1000000
namespace Go.Dl
open Go.Proofs

theorem sub_digit (a lo b : Nat) (ha : a < 4294967296) (hlo : lo < 4294967296) (hb : b ≤ 1) : ∃ d1 d, evBin .sub (.int .u64 (U a)) (.int .u64 (U lo)) = some (.int .u64 (U d1)) ∧ evBin .sub (.int .u64 (U d1)) (.int .u64 (U b)) = some (.int .u64 (U d)) ∧
    d % 4294967296 + lo + b = a + 4294967296 * (d / 4294967296 % 2) := by
  refine ⟨_, _, ev_sub64 a lo, ev_sub64 _ b, ?_⟩
  rw [Nat.mod_eq_of_lt (a := lo) (by omega), Nat.mod_eq_of_lt (a := b) (by omega)]
  omega

/-- the walk of the first loop, over W -/
theorem st1_step {W V V' q vt v c b u dg b' s P Z : Nat} (h : V + q * vt = Z + (b + c) * P) (hs : V' + P * u = V + P * dg) (hd : dg + s % W + b = u + W * b') (hsum : s = c + q * v) :
    V' + q * (vt + P * v) = Z + (b' + s / W) * (P * W) := by
  have h1 : P * (dg + s % W + b) = P * (u + W * b') := by rw [hd]
  have h2 : P * s = P * (c + q * v) := by rw [hsum]
  have h3 := congrArg (P * ·) (Nat.div_add_mod s W)
  simp only [Nat.mul_add] at h1 h2 h3
  have e1 : q * (vt + P * v) = q * vt + P * (q * v) := by rw [Nat.mul_add, Nat.mul_left_comm]
  have e2 : (b' + s / W) * (P * W) = P * (W * b') + P * (W * (s / W)) := by
    rw [Nat.add_mul, Nat.mul_comm b', Nat.mul_comm (s / W), Nat.mul_assoc, Nat.mul_assoc]
  have e3 : (b + c) * P = P * b + P * c := by rw [Nat.add_mul, Nat.mul_comm b, Nat.mul_comm c]
  rw [e1, e2]
  rw [e3] at h
  omega
/-- the walk of the second loop -/
theorem st2_step {W V V' vt v c u s P Z : Nat} (h : V + c * P = Z + vt) (hs : V' + P * u = V + P * (s % W)) (hsum : s = c + v + u) : V' + (s / W) * (P * W) = Z + (vt + P * v) := by
  have h2 : P * s = P * (c + v + u) := by rw [hsum]
  have h3 := congrArg (P * ·) (Nat.div_add_mod s W)
  simp only [Nat.mul_add] at h2 h3
  have e2 : (s / W) * (P * W) = P * (W * (s / W)) := by rw [Nat.mul_comm (s / W), Nat.mul_assoc]
  rw [e2]
  rw [Nat.mul_comm c] at h
  omega
/-- what the guess and the borrow tell -/
theorem st_low {U V A q b T : Nat} (hV : 0 < V) (hA : A < T) (h : A + q * V = U + b * T) (hb : b = 0) (hq : U / V ≤ q) : q = U / V ∧ A = U % V := by
  subst hb
  rw [Nat.zero_mul, Nat.add_zero] at h
  have h1 : q ≤ U / V := (Nat.le_div_iff_mul_le hV).2 (by omega)
  have h2 : q = U / V := by omega
  refine ⟨h2, ?_⟩
  have := Nat.div_add_mod U V
  rw [Nat.mul_comm, ← h2] at this
  omega
theorem st_high {U V A A2 q T c : Nat} (hV : 0 < V) (hVT : V ≤ T) (hA : A < T) (h : A + q * V = U + T) (hq : q ≤ U / V + 1) (hA2 : A2 < T) (h2 : A2 + c * T = A + V) : q - 1 = U / V ∧ A2 = U % V ∧ 0 < q := by
  have h1 : U < q * V := by omega
  have h3 : U / V < q := (Nat.div_lt_iff_lt_mul hV).2 h1
  have h4 : q = U / V + 1 := by omega
  have h5 := Nat.div_add_mod U V
  have h6 := Nat.mod_lt U hV
  rw [Nat.mul_comm] at h5
  rw [h4, Nat.add_mul, Nat.one_mul] at h
  rw [h4]
  clear h3 h1 hq h4
  generalize U / V * V = QV at *
  generalize U / V = Q at *
  generalize U % V = R at *
  have hc : c = 1 := by
    rcases Nat.lt_trichotomy c 1 with hc | hc | hc
    · have : c = 0 := by omega
      subst this
      omega
    · exact hc
    · have := Nat.mul_le_mul_right T (show 2 ≤ c from hc)
      omega
  subst hc
  exact ⟨by omega, by omega, by omega⟩
theorem pw3 {W : Nat} (x a b c P0 P1 : Nat) {P2 : Nat} (h1 : P1 = P0 * W) (h2 : P2 = P1 * W) : x + P0 * a + P1 * b + P2 * c = x + P0 * ((c * W + b) * W + a) := by
  subst h1 h2
  simp only [Nat.mul_add, Nat.add_mul, Nat.mul_assoc, Nat.mul_left_comm c, Nat.mul_comm b W, Nat.mul_comm c]
  omega
theorem pw2 {W : Nat} (x a b P0 : Nat) {P1 : Nat} (h1 : P1 = P0 * W) : x + P0 * a + P1 * b = x + P0 * (b * W + a) := by
  subst h1
  rw [Nat.mul_add, Nat.mul_assoc, Nat.mul_comm W b]
  omega
theorem near_le {W P U U' two u1 V V' V2 : Nat} (hP : 0 < P) (hU : U = U' + P * (two * W + u1)) (hV : V = V' + P * V2) (hV' : V' < P) (h1 : u1 < W) (hlt : U < W * V) : two ≤ V2 := by
  have h2 : W * V < W * (P * (V2 + 1)) := by
    rcases Nat.eq_zero_or_pos W with h | h
    · subst h; omega
    · exact Nat.mul_lt_mul_of_pos_left (by rw [Nat.mul_add]; omega) h
  have h3 : P * (two * W) < P * (W * (V2 + 1)) := by
    rw [Nat.mul_add] at hU
    rw [Nat.mul_left_comm P W]
    omega
  have h4 := Nat.lt_of_mul_lt_mul_left h3
  rw [Nat.mul_comm two] at h4
  exact Nat.le_of_lt_succ (Nat.lt_of_mul_lt_mul_left h4)
/-- the guess is near -/
theorem guess_near {P U U' U3 V V' V2 W q : Nat} (hP : 0 < P) (hU : U = U' + P * U3) (hU' : U' < P) (hV : V = V' + P * V2) (hV' : V' < P) (hW : W ≤ V2) (hlt : U < W * V) (hq : q < W) (h1 : q * V2 ≤ U3)
    (h2 : ∀ q', q < q' → q' < W → U3 < q' * V2) : U / V ≤ q ∧ q ≤ U / V + 1 := by
  have hV0 : 0 < V := by
    rcases Nat.eq_zero_or_pos V with h | h
    · rw [h] at hlt; omega
    · exact h
  constructor
  · refine Nat.le_of_not_lt fun h => ?_
    have hQ : U / V < W := (Nat.div_lt_iff_lt_mul hV0).2 hlt
    have h3 := h2 _ h hQ
    have h4 : U / V * V ≤ U := Nat.div_mul_le_self U V
    have h5 : U / V * (P * V2) ≤ U / V * V := Nat.mul_le_mul_left _ (by omega)
    have h6 : P * (U3 + 1) ≤ P * (U / V * V2) := Nat.mul_le_mul_left _ h3
    rw [Nat.mul_add, Nat.mul_left_comm P] at h6
    omega
  · refine Nat.le_of_not_lt fun h => ?_
    have h3 : U < (U / V + 1) * V := by
      rw [Nat.add_mul, Nat.one_mul]
      have := Nat.div_add_mod U V
      have := Nat.mod_lt U hV0
      rw [Nat.mul_comm]
      omega
    generalize U / V = Q at *
    have h4 : (Q + 2) * V2 ≤ U3 := Nat.le_trans (Nat.mul_le_mul_right _ h) h1
    have h5 : P * ((Q + 2) * V2) ≤ P * U3 := Nat.mul_le_mul_left _ h4
    have h6 : (Q + 1) * V ≤ (Q + 1) * (P * (V2 + 1)) := Nat.mul_le_mul_left _ (by rw [Nat.mul_add]; omega)
    have h7 : P * ((Q + 2) * V2) < P * ((Q + 1) * (V2 + 1)) := by
      rw [Nat.mul_left_comm P (Q + 1)]
      omega
    have h8 : (Q + 2) * V2 < (Q + 1) * (V2 + 1) := Nat.lt_of_mul_lt_mul_left h7
    rw [Nat.mul_add, Nat.mul_one, show Q + 2 = Q + 1 + 1 by omega, Nat.add_mul (Q + 1) 1] at h8
    omega

def spI (pre post v : List Nat) (n room q : Nat) (y : Nat × Nat × Nat × List Nat) : St := ⟨93, [(16, .p (.int .i64 (y.1 : Int))), (15, .p (.int .i64 ((n : Int) + 3))), (6, .p (.int .u64 (U y.2.1))), (7, .p (.int .u64 (U y.2.2.1))), (5, .p (.int .u64 (U q))), (0, .own 1000 1 pre.length (n + 3) room), (1, .p (.sl none 1 (enc v) []))], [(1000, ⟨false, 1, .p (enc (pre ++ (y.2.2.2 ++ post)))⟩)]⟩
def spJ (pre post v : List Nat) (n room q : Nat) (y : Nat × Nat × List Nat) : St := ⟨93, [(60, .p (.int .i64 (y.1 : Int))), (59, .p (.int .i64 ((n : Int) + 3))), (7, .p (.int .u64 (U y.2.1))), (5, .p (.int .u64 (U q))), (0, .own 1000 1 pre.length (n + 3) room), (1, .p (.sl none 1 (enc v) []))], [(1000, ⟨false, 1, .p (enc (pre ++ (y.2.2 ++ post)))⟩)]⟩

theorem mid_get {pre cur post : List Nat} {i : Nat} (h : i < cur.length) : (pre ++ (cur ++ post))[pre.length + i]? = some cur[i] := by
  rw [List.getElem?_append_right (by omega), show pre.length + i - pre.length = i by omega, List.getElem?_append_left h, List.getElem?_eq_getElem h]
theorem mid_set {pre cur post : List Nat} {i x : Nat} (h : i < cur.length) : (pre ++ (cur ++ post)).set (pre.length + i) x = pre ++ (cur.set i x ++ post) := by
  rw [List.set_append_right _ _ (by omega), show pre.length + i - pre.length = i by omega, List.set_append_left _ _ h]
theorem mid_cut {pre cur post : List Nat} : ((pre ++ (cur ++ post)).drop pre.length).take cur.length = cur := by simp

theorem val_top (l : List Nat) (n : Nat) (h : l.length = n + 1) : ∃ d, l[n]? = some d ∧ val l = val (l.take n) + 4294967296 ^ n * d := by
  refine ⟨l[n], List.getElem?_eq_getElem _, ?_⟩
  have := val_take_succ l n (by omega)
  rwa [List.take_of_length_le (by omega)] at this
theorem okL_take {l : List Nat} (h : OkL l) (n : Nat) : OkL (l.take n) := fun d hd => h d (List.mem_of_mem_take hd)

theorem step_guess {u v : List Nat} {n u3 u2 u1 t s : Nat} (hv : v.length = n + 2) (hu : u.length = n + 3) (hok : OkL u) (hokv : OkL v)
    (g3 : u[n + 2]? = some u3) (g2 : u[n + 1]? = some u2) (g1 : u[n]? = some u1) (gt : v[n + 1]? = some t) (gs : v[n]? = some s)
    (ht : 2147483648 ≤ t) (hlt : val u < 4294967296 * val v) :
    u3 * 4294967296 + u2 ≤ t * 4294967296 + s ∧ ∀ q, Guess u3 u2 u1 t s q → val u / val v ≤ q ∧ q ≤ val u / val v + 1 := by
  have lu : ∀ k d, k < n + 3 → u[k]? = some d → val (u.take (k + 1)) = val (u.take k) + 4294967296 ^ k * d := fun k d hk hd => by
    have := val_take_succ u k (by omega)
    rw [List.getElem?_eq_getElem (by omega)] at hd
    rw [this, Option.some.inj hd]
  have lv : ∀ k d, k < n + 2 → v[k]? = some d → val (v.take (k + 1)) = val (v.take k) + 4294967296 ^ k * d := fun k d hk hd => by
    have := val_take_succ v k (by omega)
    rw [List.getElem?_eq_getElem (by omega)] at hd
    rw [this, Option.some.inj hd]
  have eU : val u = val (u.take n) + 4294967296 ^ n * ((u3 * 4294967296 + u2) * 4294967296 + u1) := by
    have h1 := lu n u1 (by omega) g1
    have h2 := lu (n + 1) u2 (by omega) g2
    have h3 := lu (n + 2) u3 (by omega) g3
    rw [List.take_of_length_le (by omega)] at h3
    rw [h3, h2, h1]
    exact pw3 _ _ _ _ _ _ (Nat.pow_succ ..) (Nat.pow_succ ..)
  have eV : val v = val (v.take n) + 4294967296 ^ n * (t * 4294967296 + s) := by
    have h1 := lv n s (by omega) gs
    have h2 := lv (n + 1) t (by omega) gt
    rw [List.take_of_length_le (by omega)] at h2
    rw [h2, h1]
    exact pw2 _ _ _ _ (Nat.pow_succ ..)
  have hPu : val (u.take n) < 4294967296 ^ n := by
    have := val_lt (okL_take hok n)
    rwa [List.length_take, Nat.min_eq_left (by omega)] at this
  have hPv : val (v.take n) < 4294967296 ^ n := by
    have := val_lt (okL_take hokv n)
    rwa [List.length_take, Nat.min_eq_left (by omega)] at this
  have hP : 0 < 4294967296 ^ n := Nat.pow_pos (by decide)
  have m1 := hok u1 (List.mem_of_getElem? g1)
  constructor
  · exact near_le hP eU eV hPv m1 hlt
  · rintro q ⟨k1, k2, k3⟩
    exact guess_near hP eU hPu eV hPv (by omega) hlt k1 k2 k3

theorem t_step (pre u post v : List Nat) (n room t : Nat) (hn : n ≤ 900000) (hpre : pre.length ≤ 1000000) (hroom : n + 3 ≤ room) (hv : v.length = n + 2) (hu : u.length = n + 3) (hok : OkL u) (hokv : OkL v)
    (gt : v[n + 1]? = some t) (ht : 2147483648 ≤ t) (hlt : val u < 4294967296 * val v) :
    MCall Tryd.prog 118 [.own 1000 1 pre.length (n + 3) room, .p (.sl none 1 (enc v) [])] [(1000, ⟨false, 1, .p (enc (pre ++ (u ++ post)))⟩)]
      (fun r H => ∃ u', u'.length = n + 3 ∧ OkL u' ∧ val u' = val u % val v ∧ r = .p (.int .u32 (U (val u / val v))) ∧ lk H 1000 = some ⟨false, 1, .p (enc (pre ++ (u' ++ post)))⟩) := by
  obtain ⟨u3, g3⟩ : ∃ d, u[n + 2]? = some d := ⟨_, List.getElem?_eq_getElem (by omega)⟩
  obtain ⟨u2, g2⟩ : ∃ d, u[n + 1]? = some d := ⟨_, List.getElem?_eq_getElem (by omega)⟩
  obtain ⟨u1, g1⟩ : ∃ d, u[n]? = some d := ⟨_, List.getElem?_eq_getElem (by omega)⟩
  obtain ⟨s0, gs⟩ : ∃ d, v[n]? = some d := ⟨_, List.getElem?_eq_getElem (by omega)⟩
  obtain ⟨hle, hnear⟩ := step_guess hv hu hok hokv g3 g2 g1 gt gs ht hlt
  have hV0 : 0 < val v := by
    rcases Nat.eq_zero_or_pos (val v) with h | h
    · rw [h] at hlt; omega
    · exact h
  refine mcall_vc c_step (by simp [c_step]) (by simp [c_step]) fun x K hK => ?_
  have hcut : ((enc (pre ++ (u ++ post))).drop pre.length).take (n + 3) = enc u := by
    rw [enc_drop, enc_take, ← hu, mid_cut]
  have hlen : (enc (pre ++ (u ++ post))).length = pre.length + ((n + 3) + post.length) := by simp [hu]
  simp [c_step]
  refine oks_callsz .wide (ps := [.sl none 1 (enc u) [], .sl none 1 (enc v) []]) [.sl none 1 (enc u) [], .sl none 1 (enc v) []] (t_guess u v n u3 u2 u1 t s0 hv hu hok hokv (by omega) g3 g2 g1 gt gs ht hle) (by simp)
    (by simp only [List.map_cons, List.map_nil]; simp [hcut, hu, show pre.length + (n + 3) ≤ pre.length + (n + 3 + post.length) by omega]) (by simp) (by rintro _ ⟨q, rfl, _⟩; rfl) ?_
  rintro _ ⟨q, rfl, hq⟩
  refine oks_vc .wide ?_
  obtain ⟨hq1, hq2⟩ := hnear q hq
  obtain ⟨hqW, _, _⟩ := hq
  simp
  refine vc_loop .wide (spI pre post v n room q) (fun y => y.1 ≤ n + 3 ∧ y.2.1 ≤ 1 ∧ y.2.2.1 < 4294967296 ∧ OkL y.2.2.2 ∧ y.2.2.2.length = n + 3 ∧ val y.2.2.2 + q * val (v.take y.1) = val u + (y.2.1 + y.2.2.1) * 4294967296 ^ y.1 ∧ (y.1 = n + 3 → y.2.2.1 = 0)) (fun y => n + 3 - y.1)
    ⟨0, 0, 0, u⟩ ⟨by simp, by simp, by simp, hok, hu, by simp [val], by simp⟩ (sub_iff (by simp [spI])) ?_
  rintro ⟨i, b, c, cur⟩ ⟨h1, h2, h3, h4, h5, h6, h7⟩ Q k1 k2
  simp only at h1 h2 h3 h4 h5 h6 h7
  by_cases hi : i = n + 3
  · subst hi
    simp [spI]
    refine k2 _ _ (by simp) ?_
    have hvt : v.take (n + 3) = v := List.take_of_length_le (by omega)
    have hc0 : c = 0 := h7 rfl
    subst hc0
    rw [hvt, Nat.add_zero] at h6
    have hAT : val cur < 4294967296 ^ (n + 3) := by have := val_lt h4; rwa [h5] at this
    have hVT : val v ≤ 4294967296 ^ (n + 3) := by
      have := val_lt hokv
      rw [hv] at this
      exact Nat.le_trans (Nat.le_of_lt this) (Nat.pow_le_pow_right (by decide) (by omega))
    have hq32 : q % 4294967296 = q := Nat.mod_eq_of_lt hqW
    by_cases hb0 : b = 0
    · obtain ⟨f1, f2⟩ := st_low hV0 hAT h6 hb0 hq1
      simp [hb0]
      refine hK _ _ ⟨cur, h5, h4, f2, by rw [← f1, hq32], by simp⟩
    · have hb1 : b = 1 := by omega
      subst hb1
      rw [Nat.one_mul] at h6
      simp
      refine vc_loop .wide (spJ pre post v n room q) (fun y => y.1 ≤ n + 3 ∧ y.2.1 < 2 ∧ OkL y.2.2 ∧ y.2.2.length = n + 3 ∧ val y.2.2 + y.2.1 * 4294967296 ^ y.1 = val cur + val (v.take y.1)) (fun y => n + 3 - y.1)
        ⟨0, 0, cur⟩ ⟨by simp, by simp, h4, h5, by simp [val]⟩ (sub_iff (by simp [spJ])) ?_
      rintro ⟨i, c, cr⟩ ⟨j1, j2, j3, j4, j5⟩ Q' k1' k2'
      simp only at j1 j2 j3 j4 j5
      by_cases hi : i = n + 3
      · subst hi
        rw [hvt] at j5
        have hAT' : val cr < 4294967296 ^ (n + 3) := by have := val_lt j3; rwa [j4] at this
        obtain ⟨f1, f2, f3⟩ := st_high hV0 hVT hAT h6 hq2 hAT' j5
        have hdec := ev_dec64 q f3 (by omega)
        have hq1' : (q - 1) % 4294967296 = q - 1 := Nat.mod_eq_of_lt (by omega)
        simp [spJ]
        refine k2' _ _ (by simp) ?_
        simp [hdec, hq1']
        refine hK _ _ ⟨cr, j4, j3, f2, by rw [← f1], by simp⟩
      · have hi3 : i < n + 3 := by omega
        obtain ⟨k, hk⟩ : ∃ k, k = pre.length + i := ⟨_, rfl⟩
        obtain ⟨ob, hob⟩ : ∃ ob, ob = pre ++ (cr ++ post) := ⟨_, rfl⟩
        have hic : i < cr.length := by omega
        have hcu : cr[i] < 4294967296 := j3 _ (List.getElem_mem hic)
        have hget : ob[k]? = some cr[i] := by rw [hob, hk]; exact mid_get hic
        have hset : ∀ x, ob.set k x = pre ++ (cr.set i x ++ post) := fun x => by rw [hob, hk]; exact mid_set hic
        have hw : IntKind.i64.wrap ((i : Int) + 1) = (i : Int) + 1 := wrap_i64 (by omega)
        have hcu64 : cr[i] % 18446744073709551616 = cr[i] := Nat.mod_eq_of_lt (by omega)
        have hII : (i : Int) < (n : Int) + 3 := by omega
        simp only [spJ, ← hob]
        by_cases hiv : i = n + 2
        · have hvt' : v.take (i + 1) = v.take i := by rw [List.take_of_length_le (by omega), List.take_of_length_le (by omega)]
          have hvs := val_set (v := (c + cr[i]) % 4294967296) hic
          have hst := st2_step (v := 0) j5 hvs (by omega)
          rw [Nat.mul_zero, Nat.add_zero, ← Nat.pow_succ] at hst
          have hm : (c + cr[i]) % 18446744073709551616 = c + cr[i] := Nat.mod_eq_of_lt (by omega)
          have hcl : (c + cr[i]) / 4294967296 < 2 := by omega
          simp [hII, hv, ← hk, show ¬ (i : Int) < (n : Int) + 2 by omega, hget, hcu64, hm, hset, hw]
          exact k1' _ (i + 1, (c + cr[i]) / 4294967296, cr.set i ((c + cr[i]) % 4294967296)) ⟨by omega, hcl, set_ok j3 (Nat.mod_lt _ (by decide)), by simp [j4], by simp only; rw [hvt']; exact hst⟩ (by simp only; omega) (sub_iff (by simp [spJ]))
        · have hiv2 : i < n + 2 := by omega
          have hvl : i < v.length := by omega
          have hvi : v[i] < 4294967296 := hokv _ (List.getElem_mem hvl)
          have hv64 : v[i] % 18446744073709551616 = v[i] := Nat.mod_eq_of_lt (by omega)
          have hvs := val_set (v := (c + v[i] + cr[i]) % 4294967296) hic
          have hst := st2_step j5 hvs rfl
          rw [← Nat.pow_succ] at hst
          have hm1 : (c + v[i]) % 18446744073709551616 = c + v[i] := Nat.mod_eq_of_lt (by omega)
          have hm : (c + v[i] + cr[i]) % 18446744073709551616 = c + v[i] + cr[i] := Nat.mod_eq_of_lt (by omega)
          have hcl : (c + v[i] + cr[i]) / 4294967296 < 2 := by omega
          simp [hII, hv, ← hk, show (i : Int) < (n : Int) + 2 by omega, hiv2, hget, hcu64, hv64, hm1, hm, hset, hw]
          exact k1' _ (i + 1, (c + v[i] + cr[i]) / 4294967296, cr.set i ((c + v[i] + cr[i]) % 4294967296)) ⟨by omega, hcl, set_ok j3 (Nat.mod_lt _ (by decide)), by simp [j4], by simp only; rw [val_take_succ v i hvl]; exact hst⟩ (by simp only; omega) (sub_iff (by simp [spJ]))
  · have hi3 : i < n + 3 := by omega
    obtain ⟨k, hk⟩ : ∃ k, k = pre.length + i := ⟨_, rfl⟩
    obtain ⟨ob, hob⟩ : ∃ ob, ob = pre ++ (cur ++ post) := ⟨_, rfl⟩
    have hic : i < cur.length := by omega
    have hcu : cur[i] < 4294967296 := h4 _ (List.getElem_mem hic)
    have hget : ob[k]? = some cur[i] := by rw [hob, hk]; exact mid_get hic
    have hset : ∀ x, ob.set k x = pre ++ (cur.set i x ++ post) := fun x => by rw [hob, hk]; exact mid_set hic
    have hw : IntKind.i64.wrap ((i : Int) + 1) = (i : Int) + 1 := wrap_i64 (by omega)
    have hcu64 : cur[i] % 18446744073709551616 = cur[i] := Nat.mod_eq_of_lt (by omega)
    have hII : (i : Int) < (n : Int) + 3 := by omega
    have hb64 : ∀ x : Nat, x % 2 ≤ 1 := fun x => by omega
    simp only [spI, ← hob]
    by_cases hiv : i = n + 2
    · obtain ⟨d1, d, e1, e2, e3⟩ := sub_digit cur[i] (c % 4294967296) b hcu (Nat.mod_lt _ (by decide)) h2
      have hvt : v.take (i + 1) = v.take i := by rw [List.take_of_length_le (by omega), List.take_of_length_le (by omega)]
      have hvs := val_set (v := d % 4294967296) hic
      have hst := st1_step (v := 0) (s := c) h6 hvs e3 (by omega)
      rw [Nat.mul_zero, Nat.add_zero, ← Nat.pow_succ] at hst
      have hc0 : c / 4294967296 = 0 := Nat.div_eq_of_lt h3
      have hcl : c / 4294967296 < 4294967296 := by omega
      simp [-ev_sub64, hII, hv, ← hk, show ¬ (i : Int) < (n : Int) + 2 by omega, hget, hcu64, e1, e2, hset, hw]
      refine k1 _ (i + 1, d / 4294967296 % 2, c / 4294967296, cur.set i (d % 4294967296)) ⟨by omega, hb64 _, hcl, set_ok h4 (Nat.mod_lt _ (by decide)), by simp [h5], by simp only; rw [hvt]; exact hst, fun _ => hc0⟩ (by simp only; omega) (sub_iff (by simp [spI]))
    · have hiv2 : i < n + 2 := by omega
      have hvl : i < v.length := by omega
      have hvi : v[i] < 4294967296 := hokv _ (List.getElem_mem hvl)
      have hqv := mul_small hqW hvi
      have hv64 : v[i] % 18446744073709551616 = v[i] := Nat.mod_eq_of_lt (by omega)
      have hm1 : q * v[i] % 18446744073709551616 = q * v[i] := Nat.mod_eq_of_lt hqv
      have hfit := mul_fit h3 hqW hvi (show (0 : Nat) < 4294967296 by decide)
      rw [Nat.add_zero] at hfit
      have hcl : (c + q * v[i]) / 4294967296 < 4294967296 := by omega
      have hm2 : (c + q * v[i]) % 18446744073709551616 = c + q * v[i] := Nat.mod_eq_of_lt hfit
      obtain ⟨d1, d, e1, e2, e3⟩ := sub_digit cur[i] ((c + q * v[i]) % 4294967296) b hcu (Nat.mod_lt _ (by decide)) h2
      have hvs := val_set (v := d % 4294967296) hic
      have hst := st1_step h6 hvs e3 rfl
      rw [← Nat.pow_succ, ← val_take_succ v i hvl] at hst
      simp [-ev_sub64, hII, hv, ← hk, show (i : Int) < (n : Int) + 2 by omega, hiv2, hget, hcu64, hv64, hm1, hm2, e1, e2, hset, hw]
      refine k1 _ (i + 1, d / 4294967296 % 2, (c + q * v[i]) / 4294967296, cur.set i (d % 4294967296)) ⟨by omega, hb64 _, hcl, set_ok h4 (Nat.mod_lt _ (by decide)), by simp [h5], hst, fun h => by omega⟩ (by simp only; omega) (sub_iff (by simp [spI]))
end Go.Dl
