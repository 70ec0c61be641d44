/- Contracts of hornbeam/nat: Parse itself. -/
import Derived.Test.YtjmhdfcmghmgjaaDoorNtH
set_option linter.unusedVariables false
set_option linter.unusedSimpArgs false
set_option maxRecDepth 1000000
namespace Go.Dl
open Go.Proofs

def parseI (s : List UInt8) : Nat × List Nat × Nat → St
  | (i, [], _) => ⟨31, [(18, .p (.int .i64 (i : Int))), (17, .p (.int .i64 (s.length : Int))), (0, .p (.str s)), (2, .ptr 2 1 0 0), (4, .p (.sl (some true) 0 [] []))], [(2, ⟨false, 1, .p [[.sl (some true) 0 [] []]]⟩)]⟩
  | (i, d :: q, room) => ⟨31, [(18, .p (.int .i64 (i : Int))), (17, .p (.int .i64 (s.length : Int))), (0, .p (.str s)), (2, .ptr 2 1 0 0), (4, .own 27 1 0 (d :: q).length room)], [(2, ⟨false, 1, .p [[.sl (some true) 0 [] []]]⟩), (27, ⟨false, 1, .p (enc (d :: q))⟩)]⟩

theorem t_parseN (s : List UInt8) (hlen : s.length ≤ 9223372036854775807) : PCall Tryd.prog 42 [.str s] (· = parseN s) := by
  refine pcall_vcz c_natparse (by simp [c_natparse]) fun x K hK => ?_
  simp [c_natparse]
  refine oks_callz [] .wide [.str s] (t_number s hlen) (by simp) (by simp; rfl) (by simp) ?_
  rintro _ rfl
  refine oks_vc .wide ?_
  by_cases hn : isNum s = true
  · by_cases hl : s.length ≤ 1200
    · simp [hn, show ¬ (1200 : Int) < s.length by omega]
      have hdig : ∀ b, b ∈ s → isDig b = true := by
        simp only [isNum, Bool.and_eq_true, List.all_eq_true] at hn
        exact hn.1
      refine vc_loop .wide (parseI s) (fun y => y.1 ≤ s.length ∧ OkL y.2.1 ∧ y.2.1.length ≤ y.1 ∧ val y.2.1 = decval (s.take y.1)) (fun y => s.length - y.1) (0, [], 0) ⟨by simp, by simp [OkL], by simp, by simp [val, decval]⟩ ?_ ?_
      · exact sub_iff (by simp)
      · rintro ⟨i, q, room⟩ ⟨h1, h2, h3, h4⟩ Q g1 g2
        simp only at h1 h2 h3 h4
        by_cases h0 : i = s.length
        · subst h0
          rw [List.take_length] at h4
          have fin : K (.tup [encNat (val q), .int .i64 0]) := hK _ _ rfl (by simp [parseN, hn, hl, h4, encNat])
          cases q with
          | nil =>
            simp [parseI]
            refine g2 _ _ (by simp) ?_
            simp
            refine oks_callz [] .wide [.sl none 1 (enc []) []] (t_trim none [] [] h2) (by simp) (by simp; rfl) (by simp) ?_
            rintro _ rfl
            refine oks_vc .wide ?_
            simp [encNat]
            simpa [encNat] using fin
          | cons d q =>
            simp [parseI]
            refine g2 _ _ (by simp) ?_
            simp
            refine oks_callz [27] .wide [.sl none 1 (enc (d :: q)) []] (t_trim none (d :: q) [] h2) (by simp) (by simp; rfl) (by simp [List.take_of_length_le]) ?_
            rintro _ rfl
            refine oks_vc .wide ?_
            simp [encNat]
            simpa [encNat] using fin
        · have hlt : i < s.length := by omega
          have hw : IntKind.i64.wrap ((i : Int) + 1) = (i : Int) + 1 := wrap_i64 (by omega)
          have hb := hdig s[i] (List.getElem_mem hlt)
          simp only [isDig, Bool.and_eq_true, decide_eq_true_eq] at hb
          have hdg : IntKind.u32.wrap (IntKind.u8.wrap ((s[i].toNat : Int) - 48)) = U (s[i].toNat - 48) := by
            rw [wrap_u8', wrap_u32']; unfold U; omega
          cases q with
          | nil =>
            simp [parseI, hlt, hdg]
            by_cases e0 : s[i].toNat - 48 = 0
            · rw [e0]
              refine oks_callp .wide (ps := [.sl (some true) 0 [] [], .int .u32 10, .int .u32 (U 0)]) (by simp) (by simp) t_more_nil0 ?_
              rintro _ H rfl
              refine ⟨_, rfl, oks_vc .wide ?_⟩
              simp [hw]
              refine g1 _ (i + 1, [], 0) ⟨by omega, h2, by simp, ?_⟩ (by simp; omega) (sub_iff (by simp))
              simp only
              rw [← List.take_append_getElem hlt, decval_app, ← h4, e0]; simp [val]
            · refine oks_calln .wide (ps := [.sl (some true) 0 [] [], .int .u32 10, .int .u32 (U (s[i].toNat - 48))]) (by simp) (by simp) (t_more_nil (s[i].toNat - 48) (by omega) (by omega)) ?_
              rintro _ H ⟨k, room', rfl, hH⟩
              refine ⟨k, 1, 0, 1, room', _, rfl, hH, oks_vc .wide ?_⟩
              simp [hw]
              refine g1 _ (i + 1, [s[i].toNat - 48], room') ⟨by omega, OkL.one (by omega), by simp, ?_⟩ (by simp; omega) (sub_iff (by simp))
              simp only
              rw [← List.take_append_getElem hlt, decval_app, ← h4]; simp [val]
          | cons d q =>
            simp [parseI, hlt, hdg]
            refine oks_callm .wide 27 (by simp) (by simp; exact ⟨rfl, rfl⟩) (by simpa [show U 10 = 10 from rfl] using t_more (d :: q) room 10 (s[i].toNat - 48) (by omega) (by omega) h2 (by omega)) ?_
            rintro _ H ⟨k, room', q', rfl, hH, k1, k2, k3, k4⟩
            refine ⟨k, 1, 0, q'.length, room', _, rfl, hH, oks_vc .wide ?_⟩
            obtain ⟨d', q'', rfl⟩ : ∃ d' q'', q' = d' :: q'' := by
              cases q' with
              | nil => simp at k3
              | cons d' q'' => exact ⟨d', q'', rfl⟩
            simp [hw]
            refine g1 _ (i + 1, d' :: q'', room') ⟨by omega, k1, by simp at k2 h3 ⊢; omega, ?_⟩ (by simp; omega) (sub_iff (by simp))
            simp only
            rw [← List.take_append_getElem hlt, decval_app, ← h4, k4]
    · simp [hn, show (1200 : Int) < s.length by omega]
      exact hK _ _ rfl (by simp [parseN, hn, hl, encNat, limbs_zero])
  · simp [hn]
    exact hK _ _ rfl (by simp [parseN, hn, encNat, limbs_zero])
end Go.Dl
