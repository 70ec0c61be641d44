/- One operation that is no call: the machine's step and the symbolic step. -/
import Derived.Test.YtjmhdfcmghmgjaaDoorDlH
set_option linter.unusedVariables false
set_option linter.unusedSimpArgs false
namespace Go.Dl
section
variable {w : World} {S : Nat → Prop} {κ : Nat → Nat} {P : Program} {x : Fx} {st : St} {a : Act}

theorem run_map_value {s : Sem Value} {v : Value} {w w' : World} (h : s.run P w = .ok v w') : (do pure (.value (← s)) : Sem Next).run P w = .ok (.value v) w' := by
  simp [h]

theorem builtin_run (b : Builtin) (ats : Array TypeId) (args : Array Operand) (ty : TypeId) {s : Sem Next} (dst : Option Tmp) (pos : String) (after : Array Edge) (g : Option (Nat × Bool))
    (hs : ∀ consts, builtin b ats ty consts (args.map a.eval) = s) :
    execOp a.eval { dst := dst, op := .call { callee := .builtin b, args := args, argTypes := ats }, type := ty, pos := pos, after := after, guard := g } = s := by
  simp [execOp, resolve, invoke, hs]

theorem evOp_sound (hs : Sat x st κ a w) (o : Oper) (d : DV) (h : evOp st (compOp P o.op) = some d) : Yields P x st κ a w o d := by
  obtain ⟨dst, op, ty, pos, after, guard⟩ := o
  unfold Yields
  cases op with
  | move y =>
    simp only [compOp, evOp, Option.some.injEq] at h
    subst h
    exact ⟨_, rfl, hs.ev y⟩
  | assign y =>
    simp only [compOp, evOp, Option.some.injEq] at h
    subst h
    exact ⟨_, rfl, hs.ev y⟩
  | pick c y z =>
    simp only [compOp, evOp] at h
    split at h
    · rename_i t he
      cases h
      have hc := hs.ev c
      rw [he] at hc
      refine ⟨if t then a.eval y else a.eval z, ?_, ?_⟩
      · simp only [execOp, hc.bool_inv]
        cases t <;> rfl
      · cases t
        · exact hs.ev z
        · exact hs.ev y
    · cases h
  | binOp op t y z t2 =>
    simp only [compOp] at h
    have hy := hs.ev y
    have hz := hs.ev z
    split at h
    · split at h
      · rename_i ks hks
        split at h
        · obtain ⟨v, h1, h2⟩ := y_eqs (S := x.S st κ) hs hks false y z h
          exact ⟨v, run_map_value (by simpa using h1), h2⟩
        · obtain ⟨v, h1, h2⟩ := y_eqs (S := x.S st κ) hs hks true y z h
          exact ⟨v, run_map_value (by simpa using h1), h2⟩
        · cases h
      · cases h
    · rename_i e hu
      split at h
      · split at h
        · obtain ⟨v, h1, h2⟩ := y_isnil (S := x.S st κ) hs hu false y h
          exact ⟨v, run_map_value h1, h2⟩
        · obtain ⟨v, h1, h2⟩ := y_isnil (S := x.S st κ) hs hu true y h
          exact ⟨v, run_map_value h1, h2⟩
        · cases h
      · cases h
    · simp only [evOp] at h
      split at h
      · rename_i p q hp hq
        simp only [Option.map_eq_some_iff] at h
        obtain ⟨r, hr, rfl⟩ := h
        rw [hp] at hy
        rw [hq] at hz
        cases hy with | p _ _ hy => cases hz with | p _ _ hz =>
        obtain ⟨v, h1, h2⟩ := evBin_sound (P := P) hr hy hz t y z
        exact ⟨v, run_map_value h1, .p _ _ h2⟩
      · cases h
    · simp only [evOp] at h
      split at h
      · rename_i p q hp hq
        simp only [Option.map_eq_some_iff] at h
        obtain ⟨r, hr, rfl⟩ := h
        rw [hp] at hy
        rw [hq] at hz
        cases hy with | p _ _ hy => cases hz with | p _ _ hz =>
        obtain ⟨v, h1, h2⟩ := evBin_sound (P := P) hr hy hz t y z
        exact ⟨v, run_map_value h1, .p _ _ h2⟩
      · cases h
    · rename_i hu
      split at h
      · obtain ⟨v, h1, h2⟩ := y_beq (S := x.S st κ) hs hu false y z h
        exact ⟨v, run_map_value (by simpa using h1), h2⟩
      · obtain ⟨v, h1, h2⟩ := y_beq (S := x.S st κ) hs hu true y z h
        exact ⟨v, run_map_value (by simpa using h1), h2⟩
      · cases h
    · cases h
  | unOp op t y =>
    obtain ⟨v, h1, h2⟩ := y_un (S := x.S st κ) hs op y h
    exact ⟨v, run_map_value h1, h2⟩
  | convert s t y =>
    simp only [compOp] at h
    have hy := hs.ev y
    split at h
    · rename_i k k' h1 h2
      simp only [evOp] at h
      split at h
      · rename_i k n he
        cases h
        rw [he] at hy
        refine ⟨.int k' (k'.wrap n), ?_, .p _ _ (.int _ _)⟩
        simp only [execOp, hy.int_inv]
        simp [convert, run_underlying h1, run_underlying h2, Conv.intToInt]
      · cases h
    · rename_i h1 h2
      simp only [evOp] at h
      split at h
      · rename_i s' he
        cases h
        rw [he] at hy
        refine ⟨.string ⟨s'.toArray⟩, ?_, .p _ _ (.str _)⟩
        simp only [execOp, hy.str_inv]
        simp [convert, run_underlying h1, run_underlying h2]
      · cases h
    · rename_i e h1 h2
      split at h
      · rename_i h3
        obtain ⟨v, g1, g2⟩ := y_cvbs (P := P) (S := x.S st κ) hs y h s e h1
        refine ⟨v, ?_, g2⟩
        simp only [execOp]
        refine run_map_value ?_
        have hv : (∃ o l c, a.eval y = .slice o l c) := by
          simp only [evOp] at h
          split at h
          · cases h
          · rename_i hnot
            split at h
            · rename_i rows hrows
              unfold srcRows at hrows
              generalize a.eval y = u at hy ⊢
              split at hrows
              · rename_i he
                rw [he] at hy
                cases hy with | p _ _ hy => cases hy <;> exact ⟨_, _, _, rfl⟩
              · rename_i he
                rw [he] at hy
                cases hy <;> exact ⟨_, _, _, rfl⟩
              · rename_i s he
                exact (hnot s he).elim
              · cases hrows
            · cases h
        obtain ⟨o, l, c, hv⟩ := hv
        rw [hv] at g1 ⊢
        cases o <;> simp [convert, run_underlying h1, run_underlying h2, run_underlying h3, g1]
      · cases h
    · cases h
  | nilCheck y =>
    have hy := hs.ev y
    simp only [compOp, evOp] at h
    split at h
    · rename_i k b c e he
      cases h
      rw [he] at hy
      refine ⟨a.eval y, ?_, hy⟩
      simp only [execOp]
      generalize a.eval y = u at hy
      cases hy
      rfl
    · rename_i b c e f he
      cases h
      rw [he] at hy
      refine ⟨a.eval y, ?_, hy⟩
      simp only [execOp]
      generalize a.eval y = u at hy
      cases hy with | p _ _ hy => cases hy; rfl
    · rename_i f b c he
      cases h
      rw [he] at hy
      refine ⟨a.eval y, ?_, hy⟩
      simp only [execOp]
      generalize a.eval y = u at hy
      cases hy with | p _ _ hy => cases hy; rfl
    · rename_i f b c he
      cases h
      rw [he] at hy
      refine ⟨a.eval y, ?_, hy⟩
      simp only [execOp]
      generalize a.eval y = u at hy
      cases hy; rfl
    · cases h
  | fieldAddr s y f =>
    simp only [compOp] at h
    split at h
    · rename_i fs hu
      split at h
      · rename_i fd hf
        split at h
        · rename_i n hn
          split at h
          · cases h
          · rename_i hn0
            obtain ⟨v, h1, h2⟩ := y_faddr hs hu hf hn hn0 y h
            exact ⟨v, run_map_value h1, h2⟩
        · cases h
      · cases h
    · cases h
  | field s y f =>
    simp only [compOp] at h
    split at h
    · rename_i fs hu
      split at h
      · rename_i fd hf
        split at h
        · rename_i n hn
          obtain ⟨v, h1, h2⟩ := y_fld hs hu hf hn y h
          exact ⟨v, run_map_value h1, h2⟩
        · cases h
      · cases h
    · cases h
  | indexAddr t y z =>
    simp only [compOp] at h
    split at h
    · rename_i e hu
      split at h
      · rename_i n hn
        obtain ⟨v, h1, h2⟩ := y_iaddr hs hu hn y z h
        exact ⟨v, run_map_value h1, h2⟩
      · cases h
    · cases h
  | index t y z =>
    simp only [compOp] at h
    split at h
    · rename_i hu
      obtain ⟨v, h1, h2⟩ := y_idx hs hu y z h
      exact ⟨v, run_map_value h1, h2⟩
    · cases h
  | slice t y lo hi mx =>
    simp only [compOp] at h
    split at h
    · rename_i hu
      obtain ⟨v, h1, h2⟩ := y_slc_str (S := x.S st κ) hs hu y lo hi mx h
      exact ⟨v, run_map_value h1, h2⟩
    · rename_i e hu
      split at h
      · rename_i n hn
        split at h
        · cases h
        · rename_i hn0
          obtain ⟨v, h1, h2⟩ := y_slc hs hu hn hn0 y lo hi mx h
          exact ⟨v, run_map_value h1, h2⟩
      · cases h
    · cases h
  | extract y i =>
    obtain ⟨v, h1, h2⟩ := y_ext hs i y h
    exact ⟨v, run_map_value h1, h2⟩
  | makeFunc f l c =>
    simp only [compOp] at h
    refine ⟨_, ?_, y_mkf hs f l.toList c.toList h⟩
    have e1 : Array.map a.eval l = (List.map a.eval l.toList).toArray := by apply Array.ext'; simp
    have e2 : Array.map a.eval c = (List.map a.eval c.toList).toArray := by apply Array.ext'; simp
    simp only [execOp, Instr.makeFunc, e1, e2]
    rfl
  | build t parts =>
    simp only [compOp] at h
    split at h
    · rename_i fs z hu hz
      split at h
      · rename_i places hp
        split at h
        · rename_i ps hps
          obtain ⟨v, h1, h2⟩ := y_build hs hu hz hp parts hps h
          exact ⟨v, run_map_value h1, h2⟩
        · cases h
      · cases h
    · cases h
  | load t y =>
    simp only [compOp] at h
    split at h
    · rename_i n hn
      obtain ⟨v, h1, h2⟩ := y_ld hs hn y h
      exact ⟨v, run_map_value h1, h2⟩
    · cases h
  | call c =>
    obtain ⟨cal, args, ats⟩ := c
    simp only [compOp] at h
    split at h
    · split at h
      · rename_i t r y e1 e2
        have ea : args = #[y] := by apply Array.ext'; simpa using e2
        have et : ats = (t :: r).toArray := by apply Array.ext'; simpa using e1
        subst ea et
        split at h
        · rename_i hu
          obtain ⟨v, h1, h2⟩ := y_len_str (ts := r) hs hu ty y h
          exact ⟨v, by rw [builtin_run (s := do pure (.value (← Builtin.len_ (t :: r).toArray ty #[a.eval y]))) .len _ _ ty dst pos after guard (fun _ => by simp [builtin])]; exact run_map_value h1, h2⟩
        · rename_i e hu
          obtain ⟨v, h1, h2⟩ := y_len_sl (ts := r) hs hu ty y h
          exact ⟨v, by rw [builtin_run (s := do pure (.value (← Builtin.len_ (t :: r).toArray ty #[a.eval y]))) .len _ _ ty dst pos after guard (fun _ => by simp [builtin])]; exact run_map_value h1, h2⟩
        · cases h
      · cases h
    · split at h
      · rename_i y z e2
        have ea : args = #[y, z] := by apply Array.ext'; simpa using e2
        subst ea
        obtain ⟨v, h1, h2⟩ := y_mx (P := P) (S := x.S st κ) hs true ats ty y z h
        exact ⟨v, by rw [builtin_run (s := do pure (.value (← Builtin.max_ ats ty #[a.eval y, a.eval z]))) .max _ _ ty dst pos after guard (fun _ => by simp [builtin])]; exact run_map_value (by simpa using h1), h2⟩
      · cases h
    · split at h
      · rename_i y z e2
        have ea : args = #[y, z] := by apply Array.ext'; simpa using e2
        subst ea
        obtain ⟨v, h1, h2⟩ := y_mx (P := P) (S := x.S st κ) hs false ats ty y z h
        exact ⟨v, by rw [builtin_run (s := do pure (.value (← Builtin.min_ ats ty #[a.eval y, a.eval z]))) .min _ _ ty dst pos after guard (fun _ => by simp [builtin])]; exact run_map_value (by simpa using h1), h2⟩
      · cases h
    · repeat' split at h
      all_goals cases h
    · repeat' split at h
      all_goals cases h
    · cases h
    · cases h
  | _ =>
    simp only [compOp] at h
    repeat' split at h
    all_goals cases h
end
end Go.Dl
