/- Contracts of hornbeam/logic: And, Or, First, Eval of True; hornbeamlaw13.alive. -/
import Derived.Test.YtjmhdfcmghmgjaaDoorNtX
set_option linter.unusedVariables false
set_option linter.unusedSimpArgs false
set_option maxRecDepth 1000000
namespace Go.Dl
open Go.Proofs

noncomputable def c_alive13 : { d : DFn // compF Tryd.prog 8 = some d } := by
  refine ⟨?_, ?_⟩
  rotate_left
  · conv => lhs; reduce

def encI (l : List Int) : List (List PV) := l.map fun n => [.int .i64 n]
@[simp] theorem encI_len (l : List Int) : (encI l).length = l.length := by simp [encI]
@[simp] theorem encI_get (l : List Int) (i : Nat) : (encI l)[i]? = (l[i]?).map fun n => [PV.int .i64 n] := by simp [encI]
@[simp] theorem encI_getElem (l : List Int) (i : Nat) (h : i < (encI l).length) : (encI l)[i] = [PV.int .i64 (l[i]'(by simpa using h))] := by simp [encI]

def knownB (a : Int) : Bool := decide (a = 1) || decide (a = 0)
theorem t_known (a : Int) : PCall Tryd.prog 57 [.int .i64 a] (· = .bool (knownB a)) := by
  refine pcall_vc c_known (by simp [c_known]) fun x K hK => ?_
  by_cases h1 : a = 1
  · simp [c_known, h1]
    exact hK _ (by simp [knownB, h1])
  · simp [c_known, h1]
    exact hK _ (by simp [knownB, h1]; exact Bool.eq_iff_iff.2 (by simp))
def andR (out : Int) : List Int → Int
  | [] => out
  | a :: r => if a = 0 then 0 else andR (if knownB a then out else 2) r
def orR (out : Int) : List Int → Int
  | [] => out
  | a :: r => if a = 1 then 1 else orR (if knownB a then out else 2) r
def firstR : List Int → Int
  | [] => 2
  | a :: r => if knownB a then a else firstR r

theorem t_and (l : List Int) : PCall Tryd.prog 31 [.sl none 1 (encI l) []] (· = .int .i64 (andR 1 l)) := by
  refine PCall.lens fun hlen => ?_
  have hlen : l.length ≤ 9223372036854775807 := by simpa [PV.lenok] using hlen
  refine pcall_vc c_and (by simp [c_and]) fun x K hK => ?_
  simp [c_and]
  refine vc_loop .wide (fun y : Nat × Int => ⟨21, [(8, .p (.int .i64 (y.1 : Int))), (7, .p (.int .i64 (l.length : Int))), (6, .p (.sl none 1 (encI l) [])), (3, .p (.int .i64 y.2))], []⟩)
    (fun y => y.1 ≤ l.length ∧ andR y.2 (l.drop y.1) = andR 1 l) (fun y => l.length - y.1) (0, 1) ⟨by simp, by simp⟩ (sub_iff (by simp)) ?_
  rintro ⟨i, out⟩ ⟨h1, h2⟩ Q k1 k2
  simp only at h1 h2
  by_cases hi : i = l.length
  · subst hi
    simp [andR] at h2
    simp
    refine k2 _ _ (by simp) ?_
    simp
    exact hK _ (by rw [h2])
  · have hlt : i < l.length := by omega
    have hw : IntKind.i64.wrap ((i : Int) + 1) = (i : Int) + 1 := wrap_i64 (by omega)
    rw [List.drop_eq_getElem_cons hlt, andR] at h2
    by_cases h0 : l[i] = 0
    · rw [if_pos h0] at h2
      simp [hlt, h0]
      refine k2 _ _ (by simp) ?_
      simp
      exact hK _ (by rw [h2])
    · rw [if_neg h0] at h2
      simp [hlt, h0]
      refine oks_callz [] .wide [.int .i64 l[i]] (t_known l[i]) (by simp) (by simp; rfl) (by simp) ?_
      rintro _ rfl
      refine oks_vc .wide ?_
      cases hk : knownB l[i] with
      | true =>
        rw [hk] at h2
        simp [hw]
        exact k1 _ (i + 1, out) ⟨by omega, by simpa using h2⟩ (by simp only; omega) (sub_iff (by simp))
      | false =>
        rw [hk] at h2
        simp [hw]
        exact k1 _ (i + 1, 2) ⟨by omega, by simpa using h2⟩ (by simp only; omega) (sub_iff (by simp))
theorem t_or (l : List Int) : PCall Tryd.prog 32 [.sl none 1 (encI l) []] (· = .int .i64 (orR 0 l)) := by
  refine PCall.lens fun hlen => ?_
  have hlen : l.length ≤ 9223372036854775807 := by simpa [PV.lenok] using hlen
  refine pcall_vc c_or (by simp [c_or]) fun x K hK => ?_
  simp [c_or]
  refine vc_loop .wide (fun y : Nat × Int => ⟨21, [(8, .p (.int .i64 (y.1 : Int))), (7, .p (.int .i64 (l.length : Int))), (6, .p (.sl none 1 (encI l) [])), (3, .p (.int .i64 y.2))], []⟩)
    (fun y => y.1 ≤ l.length ∧ orR y.2 (l.drop y.1) = orR 0 l) (fun y => l.length - y.1) (0, 0) ⟨by simp, by simp⟩ (sub_iff (by simp)) ?_
  rintro ⟨i, out⟩ ⟨h1, h2⟩ Q k1 k2
  simp only at h1 h2
  by_cases hi : i = l.length
  · subst hi
    simp [orR] at h2
    simp
    refine k2 _ _ (by simp) ?_
    simp
    exact hK _ (by rw [h2])
  · have hlt : i < l.length := by omega
    have hw : IntKind.i64.wrap ((i : Int) + 1) = (i : Int) + 1 := wrap_i64 (by omega)
    rw [List.drop_eq_getElem_cons hlt, orR] at h2
    by_cases h0 : l[i] = 1
    · rw [if_pos h0] at h2
      simp [hlt, h0]
      refine k2 _ _ (by simp) ?_
      simp
      exact hK _ (by rw [h2])
    · rw [if_neg h0] at h2
      simp [hlt, h0]
      refine oks_callz [] .wide [.int .i64 l[i]] (t_known l[i]) (by simp) (by simp; rfl) (by simp) ?_
      rintro _ rfl
      refine oks_vc .wide ?_
      cases hk : knownB l[i] with
      | true =>
        rw [hk] at h2
        simp [hw]
        exact k1 _ (i + 1, out) ⟨by omega, by simpa using h2⟩ (by simp only; omega) (sub_iff (by simp))
      | false =>
        rw [hk] at h2
        simp [hw]
        exact k1 _ (i + 1, 2) ⟨by omega, by simpa using h2⟩ (by simp only; omega) (sub_iff (by simp))
theorem t_first (l : List Int) : PCall Tryd.prog 33 [.sl none 1 (encI l) []] (· = .int .i64 (firstR l)) := by
  refine PCall.lens fun hlen => ?_
  have hlen : l.length ≤ 9223372036854775807 := by simpa [PV.lenok] using hlen
  refine pcall_vc c_first (by simp [c_first]) fun x K hK => ?_
  simp [c_first]
  refine vc_loop .wide (fun i : Nat => ⟨15, [(7, .p (.int .i64 (i : Int))), (6, .p (.int .i64 (l.length : Int))), (5, .p (.sl none 1 (encI l) []))], []⟩)
    (fun i => i ≤ l.length ∧ firstR (l.drop i) = firstR l) (fun i => l.length - i) 0 ⟨by simp, by simp⟩ (sub_iff (by simp)) ?_
  rintro i ⟨h1, h2⟩ Q k1 k2
  by_cases hi : i = l.length
  · subst hi
    simp [firstR] at h2
    simp
    refine k2 _ _ (by simp) ?_
    simp
    exact hK _ (by rw [← h2])
  · have hlt : i < l.length := by omega
    have hw : IntKind.i64.wrap ((i : Int) + 1) = (i : Int) + 1 := wrap_i64 (by omega)
    rw [List.drop_eq_getElem_cons hlt, firstR] at h2
    simp [hlt]
    refine oks_callz [] .wide [.int .i64 l[i]] (t_known l[i]) (by simp) (by simp; rfl) (by simp) ?_
    rintro _ rfl
    refine oks_vc .wide ?_
    cases hk : knownB l[i] with
    | true =>
      rw [hk] at h2
      simp
      refine k2 _ _ (by simp) ?_
      simp
      exact hK _ (by rw [← h2]; simp)
    | false =>
      rw [hk] at h2
      simp [hw]
      exact k1 _ (i + 1) ⟨by omega, by simpa using h2⟩ (by omega) (sub_iff (by simp))

/-- Eval of True -/
theorem t_evalT (f : Int) (row : List Val) (hs : ∀ v, v ∈ row → v.num.length ≤ 1000) :
    PCall Tryd.prog 10 [.agg [.int .i64 1, .int .i64 f, .sl none 0 [] [], .sl none 0 [] []], .sl none 3 (encVs row) []] (· = .int .i64 1) := by
  refine pcall_vcz c_eval (by simp [c_eval]) fun x K hK => ?_
  simp [c_eval]
  refine oks_callz [] .wide [.sl none 3 (encVs row) [], .int .i64 f] (t_field row f hs) (by simp) (by simp; rfl) (by simp) ?_
  rintro _ rfl
  refine oks_vc .wide ?_
  simp [encV]
  exact hK _ _ rfl (by simp)

theorem t_alive13 : PCall Tryd.prog 8 [] (· = .bool true) := by
  refine pcall_vcz c_alive13 (by simp [c_alive13]) fun x K hK => ?_
  simp [c_alive13]
  refine oks_callz [1] .wide [.sl none 1 (encI [1, 2]) []] (t_and [1, 2]) (by simp) (by simp; rfl) (by simp [encI]) ?_
  rintro _ rfl
  refine oks_vc .wide ?_
  simp [show andR 1 [1, 2] = 2 by decide]
  refine oks_callz [5] .wide [.sl none 1 (encI [1, 2]) []] (t_or [1, 2]) (by simp) (by simp; rfl) (by simp [encI]) ?_
  rintro _ rfl
  refine oks_vc .wide ?_
  simp [show orR 0 [1, 2] = 1 by decide]
  refine oks_callz [10] .wide [.sl none 1 (encI [2, 0]) []] (t_first [2, 0]) (by simp) (by simp; rfl) (by simp [encI]) ?_
  rintro _ rfl
  refine oks_vc .wide ?_
  simp [show firstR [2, 0] = 0 by decide]
  refine oks_callz [] .wide [.sl none 1 (encI []) []] (t_and []) (by simp) (by simp; rfl) (by simp [encI]) ?_
  rintro _ rfl
  refine oks_vc .wide ?_
  simp [show andR 1 [] = 1 by decide]
  refine oks_callz [] .wide [.agg [.int .i64 1, .int .i64 0, .sl none 0 [] [], .sl none 0 [] []], .sl none 3 (encVs []) []] (t_evalT 0 [] (by simp)) (by simp) (by simp; rfl) (by simp [encVs]) ?_
  rintro _ rfl
  refine oks_vc .wide ?_
  simp
  exact hK _ _ rfl (by simp)
end Go.Dl
