/- Contracts of hornbeam/nat: reading. Contracts of hornbeam/nat: Parse. -/
import Derived.Test.YtjmhdfcmghmgjaaDoorNtF
set_option linter.unusedVariables false
set_option linter.unusedSimpArgs false
set_option maxRecDepth 1000000
namespace Go.Dl
open Go.Proofs

def isDig (b : UInt8) : Bool := 48 ≤ b.toNat && b.toNat ≤ 57
def isNum (s : List UInt8) : Bool := s.all isDig && (s == [48] || match s with | [] => false | b :: _ => b.toNat != 48)

theorem PCall.slens {P : Program} {f : FuncId} {args : List PV} {R : PV → Prop} (h : PCall P f args R) : PCall P f args R := h

theorem t_number (s : List UInt8) (hlen : s.length ≤ 9223372036854775807) : PCall Tryd.prog 64 [.str s] (· = .bool (isNum s)) := by
  refine pcall_vc c_number (by simp [c_number]) fun x K hK => ?_
  simp [c_number]
  refine vc_loop .wide (fun i : Nat => ⟨31, [(6, .p (.int .i64 (i : Int))), (5, .p (.int .i64 (s.length : Int))), (0, .p (.str s))], []⟩)
    (fun i => i ≤ s.length ∧ (s.take i).all isDig = true) (fun i => s.length - i) 0 ⟨by omega, by simp⟩ ?_ ?_
  · exact sub_iff (by simp)
  · rintro i ⟨h1, h2⟩ Q g1 g2
    by_cases h0 : i = s.length
    · subst h0
      rw [List.take_length] at h2
      simp
      refine g2 _ _ (by simp) ?_
      cases s with
      | nil =>
        simp
        exact hK (.bool false) (by simp [isNum])
      | cons b r =>
        have hu : (b = OfNat.ofNat 48) ↔ b.toNat = 48 := by
          constructor
          · intro h; rw [h]; rfl
          · intro h; exact UInt8.toNat_inj.1 h
        by_cases hb : b.toNat = 48
        · by_cases hr : r = []
          · simp [hu, hb, hr]
            have hb48 : b = 48 := UInt8.toNat_inj.1 (by rw [hb]; rfl)
            exact hK (.bool true) (by simp at h2; simp [isNum, hr, h2, hb48]; decide)
          · simp [hu, hb, hr]
            exact hK (.bool false) (by simp at h2; simp [isNum, hr, h2, hb])
        · simp [hu, hb]
          have e : ((b.toNat : Int) != 48) = true := by simp; omega
          rw [e]
          exact hK (.bool true) (by simp only [List.all_cons] at h2; simp [isNum, h2, hb])
    · have hlt : i < s.length := by omega
      have hw : IntKind.i64.wrap ((i : Int) + 1) = (i : Int) + 1 := wrap_i64 (by omega)
      by_cases hd : isDig s[i] = true
      · have hd' := hd
        simp only [isDig, Bool.and_eq_true, decide_eq_true_eq] at hd'
        simp [hlt, hw, show ¬ ((s[i].toNat : Int) < 48) by omega, show ¬ ((57 : Int) < s[i].toNat) by omega, show (48 : Int) ≤ s[i].toNat by omega, show ((s[i].toNat : Int) ≤ 57) by omega]
        refine g1 _ (i + 1) ⟨by omega, ?_⟩ (by omega) (sub_iff (by simp))
        rw [← List.take_append_getElem hlt, List.all_append, h2]
        simp [hd]
      · have hs : isNum s = false := by
          have : s.all isDig = false := by
            rw [List.all_eq_false]
            exact ⟨s[i], List.getElem_mem hlt, hd⟩
          simp [isNum, this]
        have hd' := hd
        simp only [isDig, Bool.and_eq_true, decide_eq_true_eq, not_and, Nat.not_le] at hd'
        by_cases h48 : s[i].toNat < 48
        · simp [hlt, hw, show ((s[i].toNat : Int) < 48) by omega, show ¬ ((48 : Int) ≤ s[i].toNat) by omega]
          refine g2 _ _ (by simp) ?_
          simp
          exact hK _ (by simp [hs])
        · simp [hlt, hw, show ¬ ((s[i].toNat : Int) < 48) by omega, show ((57 : Int) < s[i].toNat) by omega, show (48 : Int) ≤ s[i].toNat by omega]
          refine g2 _ _ (by simp) ?_
          simp
          exact hK _ (by simp [hs])
end Go.Dl
set_option linter.unusedVariables false
set_option linter.unusedSimpArgs false
set_option maxRecDepth 1000000
namespace Go.Dl
open Go.Proofs

def decval (s : List UInt8) : Nat := s.foldl (fun a b => a * 10 + (b.toNat - 48)) 0
theorem decval_app (s : List UInt8) (b : UInt8) : decval (s ++ [b]) = decval s * 10 + (b.toNat - 48) := by simp [decval]

/-- nat.Parse -/
def parseN (s : List UInt8) : PV := if isNum s then if s.length ≤ 1200 then .tup [encNat (decval s), .int .i64 0] else .tup [encNat 0, .int .i64 2] else .tup [encNat 0, .int .i64 3]

/-- a call that hands on a pure value as it is -/
theorem oks_callp {F : Fence} {P : Program} {nt : Nat} {x : Fx} {st : St} (hF : Free F) {R : St → Prop} {ops : List DOper} {d : Nat} {f : FuncId} {l : List DOpd} {g : Option (Nat × Bool)} {ps : List PV} {Rc : DV → List (Nat × Ob) → Prop}
    (hg : gOk st g) (hp : pures (l.map st.ev) = some ps) (hc : MCall P f (ps.map .p) [] Rc)
    (h : ∀ r H, Rc r H → ∃ p, r = .p p ∧ OkOps F P nt x ops R (st.set d (.p p))) : OkOps F P nt x (⟨some d, .call f l, g⟩ :: ops) R st := by
  refine oks_call_gen hF hg fun hd κ a w hs vs hrel hl => ?_
  obtain ⟨p1, p2⟩ := pures_rel hp hrel
  let x' : Fx := ⟨x.S st κ, fun _ => False, w, [], fun _ => none⟩
  have hx' : ∀ κ' b, x'.S ⟨0, [], []⟩ κ' b → x.S st κ b := by
    rintro κ' b (h | ⟨k, ob, hk, _⟩)
    · exact h
    · simp [lk] at hk
  refine (hc x' κ w vs rfl (fun k b hk => by cases hk) ⟨rfl, rfl, fun i d hd => by simp [lk] at hd, fun k ob hk => by simp [lk] at hk, fun k k' ob ob' hk => by simp [lk] at hk, fun k ob hk => by simp [lk] at hk,
    Fr.refl _ _, hs.Slt, fun k b hk => by cases hk⟩ (by simp at p1 hl ⊢; omega) (fun i c v hc hv => ?_)).mono ?_
  · simp only [List.getElem?_map, Option.map_eq_some_iff] at hc
    obtain ⟨q, hq, rfl⟩ := hc
    exact .p _ _ ((p2 i q v hq hv).mono (Keep.refl _ _) (fun b _ h => hx' κ b h))
  · rintro e w' ⟨v, r, H, κ', rfl, hr, hs', hv⟩
    obtain ⟨p, rfl, hok⟩ := h r H hr
    cases hv with | p _ _ hv =>
    exact ⟨v, _, κ, rfl, (hs.world hs'.fr).set d hd (.p p) v (.p _ _ (hv.mono (Keep.refl _ _) (fun b _ h => .inl h))), rfl, hok⟩

theorem t_more_nil0 : MCall Tryd.prog 65 [.p (.sl (some true) 0 [] []), .p (.int .u32 10), .p (.int .u32 (U 0))] [] (fun r H => r = .p (.sl (some true) 0 [] [])) := by
  refine mcall_vc c_more (by simp [c_more]) (by simp [c_more]) fun x K hK => ?_
  simp [c_more]
  refine vc_loop .wide (fun _ : Unit => ⟨43, [(13, .p (.int .i64 0)), (12, .p (.int .i64 0)), (7, .p (.int .u64 (U 0))), (0, .p (.sl (some true) 0 [] []))], []⟩) (fun _ => True) (fun _ => 0) () trivial (sub_iff (by simp [show IntKind.u64.wrap 0 = 0 by decide])) ?_
  rintro _ _ Q g1 g2
  simp
  refine g2 _ _ (by simp) ?_
  simp
  exact hK _ _ rfl
theorem t_more_nil (e : Nat) (h0 : 0 < e) (he : e < 4294967296) : MCall Tryd.prog 65 [.p (.sl (some true) 0 [] []), .p (.int .u32 10), .p (.int .u32 (U e))] []
    (fun r H => ∃ k room', r = .own k 1 0 1 room' ∧ lk H k = some ⟨false, 1, .p (enc [e])⟩) := by
  refine mcall_vc c_more (by simp [c_more]) (by simp [c_more]) fun x K hK => ?_
  have he64 : e % 18446744073709551616 = e := Nat.mod_eq_of_lt (by omega)
  have he32 : e % 4294967296 = e := Nat.mod_eq_of_lt he
  simp [c_more]
  refine vc_loop .wide (fun _ : Unit => ⟨43, [(13, .p (.int .i64 0)), (12, .p (.int .i64 0)), (7, .p (.int .u64 (U e))), (0, .p (.sl (some true) 0 [] []))], []⟩) (fun _ => True) (fun _ => 0) () trivial (sub_iff (by simp [he64])) ?_
  rintro _ _ Q g1 g2
  simp
  refine g2 _ _ (by simp) ?_
  simp [h0, he32, show ¬ e = 0 by omega, maxLen_eq]
  exact hK _ _ ⟨41, 1, by simp, by simp [enc]⟩
end Go.Dl
