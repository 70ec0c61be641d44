/- hornbeamlaw13.PredOpposite, walked. -/
import Derived.Test.YtjmhdfcmghmgjaaDoorBkA
set_option linter.unusedVariables false
set_option linter.unusedSimpArgs false
set_option maxRecDepth 1000000
namespace Go.Dl
open Go.Proofs

noncomputable def c_po : { d : DFn // compF Tryd.prog 3 = some d } := by
  refine ⟨?_, ?_⟩
  rotate_left
  · conv => lhs; reduce

def poR (c : Int) (op : Nat) : Int := if ordB (op : Int) c then 1 else 0
def poL (c : Int) (op : Nat) : List Int := [0, 0, 0, if 3 < op then poR c 3 else 0, if 4 < op then poR c 4 else 0, if 5 < op then poR c 5 else 0, if 6 < op then poR c 6 else 0, if 7 < op then poR c 7 else 0, if 8 < op then poR c 8 else 0]
theorem po_set (c : Int) (op : Nat) (h1 : 3 ≤ op) (h2 : op ≤ 8) : (poL c op).set op (poR c op) = poL c (op + 1) := by
  obtain rfl | rfl | rfl | rfl | rfl | rfl : op = 3 ∨ op = 4 ∨ op = 5 ∨ op = 6 ∨ op = 7 ∨ op = 8 := by omega
  all_goals simp [poL]
theorem po_last (c : Int) : (poL c 9).length = 9 := rfl
theorem encI_set (l : List Int) (i : Nat) (v : Int) : (encI l).set i [.int .i64 v] = encI (l.set i v) := by simp [encI]
def poI (n : Nat) (w : Val) (row : List Val) (c : Int) (op : Nat) : St := ⟨127, [(8, .p (.int .i64 (op : Int))), (7, .own 57 1 0 9 9), (4, .ptr 4 3 0 0), (2, .p (.sl none 3 (encVs row) [])), (0, .p (.int .i64 (n : Int)))], [(57, ⟨false, 1, .p (encI (poL c op))⟩), (4, ⟨false, 3, .p [[.int .i64 1, .str w.num, .str w.cat]]⟩)]⟩
set_option maxHeartbeats 4000000 in
theorem t_po (f : Int) (w : Val) (row : List Val) : PCall Tryd.prog 3 [.int .i64 f, .agg (encV w), .sl none 3 (encVs row) []] (· = .bool true) := by
  refine PCall.lens fun hlen => ?_
  have hlen : row.length ≤ 9223372036854775807 := by
    have := hlen (.sl none 3 (encVs row) []) (by simp)
    simpa [PV.lenok] using this
  refine pcall_vcz c_po (by simp [c_po]) fun x K hK => ?_
  have yes : K (.bool true) := hK _ _ rfl (by simp)
  simp [c_po, encV]
  refine oks_callz [] .wide [.sl none 3 (encVs row) []] (r_row row) (by simp) (by simp; rfl) (by simp) ?_
  rintro _ ⟨b1, rfl, hb1⟩
  refine oks_vc .wide ?_
  cases b1 with
  | false =>
    simp
    refine oks_skipc .wide (by simp) (oks_vc .wide ?_)
    simp
    refine oks_skipc .wide (by simp) (oks_vc .wide ?_)
    simp
    refine oks_callz [] .wide [] t_alive13 (by simp) (by simp; rfl) (by simp) ?_
    rintro _ rfl
    refine oks_vc .wide ?_
    simp
    exact yes
  | true =>
    obtain ⟨hr1, hr2⟩ := hb1 rfl
    simp
    refine oks_callz [14] .wide [.sl none 3 (encVs [w]) []] (r_row [w]) (by simp) (by simp; rfl) (by simp [encVs, encV]) ?_
    rintro _ ⟨b2, rfl, hb2⟩
    refine oks_vc .wide ?_
    cases b2 with
    | false =>
      simp
      refine oks_skipc .wide (by simp) (oks_vc .wide ?_)
      simp
      refine oks_callz [] .wide [] t_alive13 (by simp) (by simp; rfl) (by simp) ?_
      rintro _ rfl
      refine oks_vc .wide ?_
      simp
      exact yes
    | true =>
      have hw2 : w.num.length ≤ 200 := (hb2 rfl).2 w (by simp)
      simp
      refine oks_callz [] .wide [] t_alive13 (by simp) (by simp; rfl) (by simp) ?_
      rintro _ rfl
      refine oks_vc .wide ?_
      by_cases hf0 : f < 0
      · simp [hf0]
        refine oks_skipc .wide (by simp) (oks_vc .wide ?_)
        simp
        refine oks_skipc .wide (by simp) (oks_vc .wide ?_)
        simp
        exact yes
      · obtain ⟨n, rfl⟩ : ∃ n : Nat, f = (n : Int) := ⟨f.toNat, by omega⟩
        by_cases hn : n < row.length
        · have hn' : ¬ row.length ≤ n := by omega
          simp [hf0, hn']
          refine oks_callz [] .wide [.agg (encV w)] (r_valid w (by omega)) (by simp) (by simp; rfl) (by simp [encV]) ?_
          rintro _ rfl
          refine oks_vc .wide ?_
          cases hvw : validR w with
          | false =>
            simp
            refine oks_skipc .wide (by simp) (oks_vc .wide ?_)
            simp
            exact yes
          | true =>
            have hvl : row[n].num.length ≤ 200 := hr2 _ (List.getElem_mem hn)
            simp [hn, encV]
            refine oks_callz [] .wide [.agg (encV row[n])] (r_valid row[n] (by omega)) (by simp) (by simp; rfl) (by simp [encV]) ?_
            rintro _ rfl
            refine oks_vc .wide ?_
            cases hvr : validR row[n] with
            | false =>
              simp
              exact yes
            | true =>
              by_cases hk1 : w.kind = 1
              · by_cases hk2 : row[n].kind = 1
                · have hnw : numOk w = true := by simpa [validR, hk1] using hvw
                  have hnr : numOk row[n] = true := by simpa [validR, hk2] using hvr
                  have hfv : fieldV row (n : Int) = row[n] := by
                    have : validP row[n] = true := by simpa [validP, hk2] using hnr
                    simp [fieldV, hn, this]
                  obtain ⟨c, hc⟩ : ∃ c, c = cmpV row[n] w := ⟨_, rfl⟩
                  have hev : ∀ op : Nat, 3 ≤ op → op ≤ 8 → PCall Tryd.prog 10 [.agg [.int .i64 (op : Int), .int .i64 (n : Int), .sl none 3 [encV w] [], .sl none 4 [] []], .sl none 3 (encVs row) []] (· = .int .i64 (poR c op)) := by
                    intro op h1 h2
                    have := t_evalc (op : Int) (n : Int) w row (by omega) (fun v hv => Nat.le_trans (hr2 v hv) (by omega)) (by rw [hfv]; exact hnr) hnw (by rw [hfv]; omega) (by omega)
                    rwa [hfv, ← hc] at this
                  simp [hk1, hk2, hn, encV]
                  refine vc_loop .wide (poI n w row c) (fun op => 3 ≤ op ∧ op ≤ 9) (fun op => 9 - op) 3 (by omega) (sub_iff (by simp [poI, poL, encI])) ?_
                  rintro op ⟨o1, o2⟩ Q k1 k2
                  by_cases ho : op = 9
                  · subst ho
                    simp [poI]
                    refine k2 _ _ (by simp) ?_
                    have hw1 : IntKind.i64.wrap 1 = 1 := rfl
                    have hw0 : IntKind.i64.wrap 0 = 0 := rfl
                    simp
                    refine vc_draw .wide rfl ?_
                    rcases Int.lt_trichotomy c 0 with h | h | h
                    · have e : poL c 9 = [0, 0, 0, 1, 1, 0, 1, 0, 0] := by simp [poL, poR, ordB, h, show c ≤ 0 by omega, show ¬ c = 0 by omega, show ¬ 0 ≤ c by omega, show ¬ 0 < c by omega]
                      simp [e, encI, hw1, hw0]
                      exact yes
                    · have e : poL c 9 = [0, 0, 0, 0, 1, 1, 0, 1, 0] := by simp [poL, poR, ordB, h]
                      simp [e, encI, hw1, hw0]
                      exact yes
                    · have e : poL c 9 = [0, 0, 0, 0, 0, 0, 1, 1, 1] := by simp [poL, poR, ordB, h, show ¬ c ≤ 0 by omega, show ¬ c = 0 by omega, show 0 ≤ c by omega, show ¬ c < 0 by omega]
                      simp [e, encI, hw1, hw0]
                      exact yes
                  · have ho8 : op ≤ 8 := by omega
                    have hwo : IntKind.i64.wrap ((op : Int) + 1) = (op : Int) + 1 := wrap_i64 (by omega)
                    have hset : ∃ v, (poL c op)[op]? = some v := ⟨_, List.getElem?_eq_getElem (by simp [poL]; omega)⟩
                    obtain ⟨v0, hv0⟩ := hset
                    have hnext := po_set c op o1 ho8
                    simp [poI, show (op : Int) ≤ 8 by omega]
                    refine oks_callz [67] .wide [.agg [.int .i64 (op : Int), .int .i64 (n : Int), .sl none 3 [encV w] [], .sl none 4 [] []], .sl none 3 (encVs row) []] (hev op o1 ho8) (by simp) (by simp; rfl) (by simp [encV, hk1]) ?_
                    rintro _ rfl
                    refine oks_vc .wide ?_
                    simp [hv0, hwo, show (op : Int) < 9 by omega, show op < 9 by omega]
                    exact k1 _ (op + 1) ⟨by omega, by omega⟩ (by omega) (sub_iff (by simp [poI, encI_set, hnext]))
                · simp [hk1, hk2, hn, encV]
                  exact yes
              · simp [hk1]
                exact yes
        · simp [hf0, show row.length ≤ n by omega]
          refine oks_skipc .wide (by simp) (oks_vc .wide ?_)
          simp
          refine oks_skipc .wide (by simp) (oks_vc .wide ?_)
          simp
          exact yes
end Go.Dl
