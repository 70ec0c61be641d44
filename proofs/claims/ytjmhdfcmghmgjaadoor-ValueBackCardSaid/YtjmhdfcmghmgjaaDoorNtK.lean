/- slices.Reverse of bytes. -/
import Derived.Test.YtjmhdfcmghmgjaaDoorNtJ
set_option linter.unusedVariables false
set_option linter.unusedSimpArgs false
set_option maxRecDepth 1000000
namespace Go.Dl
open Go.Proofs

def encB (l : List Nat) : List (List PV) := l.map fun (d : Nat) => [.int .u8 (U d)]
@[simp] theorem encB_len (l : List Nat) : (encB l).length = l.length := by simp [encB]
@[simp] theorem encB_nil : encB [] = [] := rfl
theorem encB_app (a b : List Nat) : encB (a ++ b) = encB a ++ encB b := by simp [encB]
@[simp] theorem encB_get (l : List Nat) (i : Nat) : (encB l)[i]? = (l[i]?).map fun (n : Nat) => [PV.int .u8 (U n)] := by simp [encB]
@[simp] theorem encB_getElem (l : List Nat) (i : Nat) (h : i < (encB l).length) : (encB l)[i] = [PV.int .u8 (U (l[i]'(by simpa using h)))] := by simp [encB]
@[simp] theorem encB_set (a : List Nat) (i v : Nat) : (encB a).set i [.int .u8 (U v)] = encB (a.set i v) := by simp [encB]

def RevAt (l cur : List Nat) (i : Nat) : Prop := cur.length = l.length ∧ ∀ k, k < l.length → cur[k]? = if k < i ∨ l.length - i ≤ k then l[l.length - 1 - k]? else l[k]?
theorem RevAt.done {l cur : List Nat} {i : Nat} (h : RevAt l cur i) (hi : l.length ≤ 2 * i + 1) : cur = l.reverse := by
  refine List.ext_getElem? fun k => ?_
  by_cases hk : k < l.length
  · rw [h.2 k hk, List.getElem?_reverse hk]
    split
    · rfl
    · rename_i hn
      rw [show l.length - 1 - k = k by omega]
  · rw [List.getElem?_eq_none (by rw [h.1]; omega), List.getElem?_eq_none (by simp; omega)]
theorem RevAt.step {l cur : List Nat} {i a b : Nat} (h : RevAt l cur i) (hi : 2 * i + 1 < l.length) (ha : cur[i]? = some a) (hb : cur[l.length - 1 - i]? = some b) : RevAt l ((cur.set i b).set (l.length - 1 - i) a) (i + 1) := by
  refine ⟨by simp [h.1], fun k hk => ?_⟩
  have e1 := h.2 i (by omega)
  have e2 := h.2 (l.length - 1 - i) (by omega)
  rw [if_neg (by omega)] at e1 e2
  rw [ha] at e1
  rw [hb] at e2
  rw [List.getElem?_set, List.getElem?_set]
  by_cases k1 : l.length - 1 - i = k
  · rw [if_pos k1, if_pos (by simp [h.1]; omega), if_pos (by omega), show l.length - 1 - k = i by omega, ← e1]
  · rw [if_neg k1]
    by_cases k2 : i = k
    · rw [if_pos k2, if_pos (by simp [h.1]; omega), if_pos (by omega), ← k2, ← e2]
    · rw [if_neg k2, h.2 k hk]
      by_cases c : k < i ∨ l.length - i ≤ k
      · rw [if_pos c, if_pos (by omega)]
      · rw [if_neg c, if_neg (by omega)]

theorem t_reverse (l : List Nat) (room : Nat) (hlen : l.length ≤ 1000000) : MCall Tryd.prog 79 [.own 1000 1 0 l.length room] [(1000, ⟨false, 1, .p (encB l)⟩)]
    (fun r H => r = .p (.tup []) ∧ lk H 1000 = some ⟨false, 1, .p (encB l.reverse)⟩) := by
  refine mcall_vc c_reverse (by simp [c_reverse]) (by simp [c_reverse]) fun x K hK => ?_
  simp [c_reverse]
  refine vc_loop .wide (fun y : Nat × List Nat => ⟨28, [(2, .p (.int .i64 (y.1 : Int))), (3, .p (.int .i64 ((l.length : Int) - 1 - y.1))), (0, .own 1000 1 0 l.length room)], [(1000, ⟨false, 1, .p (encB y.2)⟩)]⟩)
    (fun y => RevAt l y.2 y.1 ∧ y.1 ≤ l.length) (fun y => l.length - y.1) (0, l) ⟨⟨rfl, fun k hk => by simp [show ¬ l.length ≤ k by omega]⟩, by simp⟩ ?_ ?_
  · have hw : IntKind.i64.wrap ((l.length : Int) - 1) = (l.length : Int) - 1 := wrap_i64 (by omega)
    exact sub_iff (by simp [hw])
  · rintro ⟨i, cur⟩ ⟨h1, h3⟩ Q g1 g2
    simp only at h1 h3
    by_cases hi : 2 * i + 1 < l.length
    · obtain ⟨j, hj⟩ : ∃ j : Nat, j = l.length - 1 - i := ⟨_, rfl⟩
      have hji : (l.length : Int) - 1 - (i : Int) = (j : Int) := by omega
      obtain ⟨a, ha⟩ : ∃ a, cur[i]? = some a := ⟨cur[i]'(by rw [h1.1]; omega), List.getElem?_eq_getElem _⟩
      obtain ⟨b, hb⟩ : ∃ b, cur[j]? = some b := ⟨cur[j]'(by rw [h1.1]; omega), List.getElem?_eq_getElem _⟩
      have hw : IntKind.i64.wrap ((i : Int) + 1) = (i : Int) + 1 := wrap_i64 (by omega)
      have hw' : IntKind.i64.wrap ((j : Int) - 1) = (j : Int) - 1 := wrap_i64 (by omega)
      have hset : (cur.set i b)[j]? = some b := by rw [List.getElem?_set, if_neg (by omega)]; exact hb
      have hst := h1.step hi ha (by rw [← hj]; exact hb)
      rw [← hj] at hst
      simp [hji, show i < j by omega]
      refine vc_drawS .wide [(13, 1000), (15, 1000)] rfl ?_
      simp [show i < l.length by omega, show j < l.length by omega, ha, hb, hset]
      refine g1 _ (i + 1, (cur.set i b).set j a) ⟨hst, by omega⟩ (by simp; omega) (sub_iff (by simp [hw, hw']; omega))
    · simp [show ¬ ((i : Int) < (l.length : Int) - 1 - i) by omega]
      refine g2 _ _ (by simp) ?_
      simp
      refine hK _ _ ⟨rfl, ?_⟩
      simp [h1.done (by omega)]
end Go.Dl
