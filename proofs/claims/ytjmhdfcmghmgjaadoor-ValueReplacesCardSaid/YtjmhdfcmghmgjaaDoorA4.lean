/- One operation that is no call: the machine's step and the symbolic step. A store; each operation that is no call. -/
import Derived.Test.YtjmhdfcmghmgjaaDoorA3
set_option linter.unusedVariables false
set_option linter.unusedSimpArgs false
namespace Go.Dl
section
variable {w : World} {S : Nat → Prop} {κ : Nat → Nat} {P : Program} {x : Fx} {st : St} {a : Act}

theorem run_map_value {s : Sem Value} {v : Value} {w w' : World} (h : s.run P w = .ok v w') : (do pure (.value (← s)) : Sem Next).run P w = .ok (.value v) w' := by
  simp [h]

theorem builtin_run (b : Builtin) (ats : Array TypeId) (args : Array Operand) (ty : TypeId) {s : Sem Next} (dst : Option Tmp) (pos : String) (after : Array Edge) (g : Option (Nat × Bool))
    (hs : ∀ consts, builtin b ats ty consts (args.map a.eval) = s) :
    execOp a.eval { dst := dst, op := .call { callee := .builtin b, args := args, argTypes := ats }, type := ty, pos := pos, after := after, guard := g } = s := by
  simp [execOp, resolve, invoke, hs]

theorem evOp_sound (hs : Sat x st κ a w) (o : Oper) (d : DV) (h : evOp st (compOp P o.op) = some d) : Yields P x st κ a w o d := by
  obtain ⟨dst, op, ty, pos, after, guard⟩ := o
  unfold Yields
  cases op with
  | move y =>
    simp only [compOp, evOp, Option.some.injEq] at h
    subst h
    exact ⟨_, rfl, hs.ev y⟩
  | assign y =>
    simp only [compOp, evOp, Option.some.injEq] at h
    subst h
    exact ⟨_, rfl, hs.ev y⟩
  | pick c y z =>
    simp only [compOp, evOp] at h
    split at h
    · rename_i t he
      cases h
      have hc := hs.ev c
      rw [he] at hc
      refine ⟨if t then a.eval y else a.eval z, ?_, ?_⟩
      · simp only [execOp, hc.bool_inv]
        cases t <;> rfl
      · cases t
        · exact hs.ev z
        · exact hs.ev y
    · cases h
  | binOp op t y z t2 =>
    simp only [compOp] at h
    have hy := hs.ev y
    have hz := hs.ev z
    split at h
    · split at h
      · rename_i ks hks
        split at h
        · obtain ⟨v, h1, h2⟩ := y_eqs (S := x.S st κ) hs hks false y z h
          exact ⟨v, run_map_value (by simpa using h1), h2⟩
        · obtain ⟨v, h1, h2⟩ := y_eqs (S := x.S st κ) hs hks true y z h
          exact ⟨v, run_map_value (by simpa using h1), h2⟩
        · cases h
      · cases h
    · rename_i e hu
      split at h
      · split at h
        · obtain ⟨v, h1, h2⟩ := y_isnil (S := x.S st κ) hs hu false y h
          exact ⟨v, run_map_value h1, h2⟩
        · obtain ⟨v, h1, h2⟩ := y_isnil (S := x.S st κ) hs hu true y h
          exact ⟨v, run_map_value h1, h2⟩
        · cases h
      · cases h
    · simp only [evOp] at h
      split at h
      · rename_i p q hp hq
        simp only [Option.map_eq_some_iff] at h
        obtain ⟨r, hr, rfl⟩ := h
        rw [hp] at hy
        rw [hq] at hz
        cases hy with | p _ _ hy => cases hz with | p _ _ hz =>
        obtain ⟨v, h1, h2⟩ := evBin_sound (P := P) hr hy hz t y z
        exact ⟨v, run_map_value h1, .p _ _ h2⟩
      · cases h
    · simp only [evOp] at h
      split at h
      · rename_i p q hp hq
        simp only [Option.map_eq_some_iff] at h
        obtain ⟨r, hr, rfl⟩ := h
        rw [hp] at hy
        rw [hq] at hz
        cases hy with | p _ _ hy => cases hz with | p _ _ hz =>
        obtain ⟨v, h1, h2⟩ := evBin_sound (P := P) hr hy hz t y z
        exact ⟨v, run_map_value h1, .p _ _ h2⟩
      · cases h
    · rename_i hu
      split at h
      · obtain ⟨v, h1, h2⟩ := y_beq (S := x.S st κ) hs hu false y z h
        exact ⟨v, run_map_value (by simpa using h1), h2⟩
      · obtain ⟨v, h1, h2⟩ := y_beq (S := x.S st κ) hs hu true y z h
        exact ⟨v, run_map_value (by simpa using h1), h2⟩
      · cases h
    · cases h
  | unOp op t y =>
    obtain ⟨v, h1, h2⟩ := y_un (S := x.S st κ) hs op y h
    exact ⟨v, run_map_value h1, h2⟩
  | convert s t y =>
    simp only [compOp] at h
    have hy := hs.ev y
    split at h
    · rename_i k k' h1 h2
      simp only [evOp] at h
      split at h
      · rename_i k n he
        cases h
        rw [he] at hy
        refine ⟨.int k' (k'.wrap n), ?_, .p _ _ (.int _ _)⟩
        simp only [execOp, hy.int_inv]
        simp [convert, run_underlying h1, run_underlying h2, Conv.intToInt]
      · cases h
    · rename_i h1 h2
      simp only [evOp] at h
      split at h
      · rename_i s' he
        cases h
        rw [he] at hy
        refine ⟨.string ⟨s'.toArray⟩, ?_, .p _ _ (.str _)⟩
        simp only [execOp, hy.str_inv]
        simp [convert, run_underlying h1, run_underlying h2]
      · cases h
    · rename_i e h1 h2
      split at h
      · rename_i h3
        obtain ⟨v, g1, g2⟩ := y_cvbs (P := P) (S := x.S st κ) hs y h s e h1
        refine ⟨v, ?_, g2⟩
        simp only [execOp]
        refine run_map_value ?_
        have hv : (∃ o l c, a.eval y = .slice o l c) := by
          simp only [evOp] at h
          split at h
          · cases h
          · rename_i hnot
            split at h
            · rename_i rows hrows
              unfold srcRows at hrows
              generalize a.eval y = u at hy ⊢
              split at hrows
              · rename_i he
                rw [he] at hy
                cases hy with | p _ _ hy => cases hy <;> exact ⟨_, _, _, rfl⟩
              · rename_i he
                rw [he] at hy
                cases hy <;> exact ⟨_, _, _, rfl⟩
              · rename_i s he
                exact (hnot s he).elim
              · cases hrows
            · cases h
        obtain ⟨o, l, c, hv⟩ := hv
        rw [hv] at g1 ⊢
        cases o <;> simp [convert, run_underlying h1, run_underlying h2, run_underlying h3, g1]
      · cases h
    · cases h
  | nilCheck y =>
    have hy := hs.ev y
    simp only [compOp, evOp] at h
    split at h
    · rename_i k b c e he
      cases h
      rw [he] at hy
      refine ⟨a.eval y, ?_, hy⟩
      simp only [execOp]
      generalize a.eval y = u at hy
      cases hy
      rfl
    · rename_i b c e f he
      cases h
      rw [he] at hy
      refine ⟨a.eval y, ?_, hy⟩
      simp only [execOp]
      generalize a.eval y = u at hy
      cases hy with | p _ _ hy => cases hy; rfl
    · rename_i f b c he
      cases h
      rw [he] at hy
      refine ⟨a.eval y, ?_, hy⟩
      simp only [execOp]
      generalize a.eval y = u at hy
      cases hy with | p _ _ hy => cases hy; rfl
    · rename_i f b c he
      cases h
      rw [he] at hy
      refine ⟨a.eval y, ?_, hy⟩
      simp only [execOp]
      generalize a.eval y = u at hy
      cases hy; rfl
    · cases h
  | fieldAddr s y f =>
    simp only [compOp] at h
    split at h
    · rename_i fs hu
      split at h
      · rename_i fd hf
        split at h
        · rename_i n hn
          split at h
          · cases h
          · rename_i hn0
            obtain ⟨v, h1, h2⟩ := y_faddr hs hu hf hn hn0 y h
            exact ⟨v, run_map_value h1, h2⟩
        · cases h
      · cases h
    · cases h
  | field s y f =>
    simp only [compOp] at h
    split at h
    · rename_i fs hu
      split at h
      · rename_i fd hf
        split at h
        · rename_i n hn
          obtain ⟨v, h1, h2⟩ := y_fld hs hu hf hn y h
          exact ⟨v, run_map_value h1, h2⟩
        · cases h
      · cases h
    · cases h
  | indexAddr t y z =>
    simp only [compOp] at h
    split at h
    · rename_i e hu
      split at h
      · rename_i n hn
        obtain ⟨v, h1, h2⟩ := y_iaddr hs hu hn y z h
        exact ⟨v, run_map_value h1, h2⟩
      · cases h
    · cases h
  | index t y z =>
    simp only [compOp] at h
    split at h
    · rename_i hu
      obtain ⟨v, h1, h2⟩ := y_idx hs hu y z h
      exact ⟨v, run_map_value h1, h2⟩
    · cases h
  | slice t y lo hi mx =>
    simp only [compOp] at h
    split at h
    · rename_i hu
      obtain ⟨v, h1, h2⟩ := y_slc_str (S := x.S st κ) hs hu y lo hi mx h
      exact ⟨v, run_map_value h1, h2⟩
    · rename_i e hu
      split at h
      · rename_i n hn
        split at h
        · cases h
        · rename_i hn0
          obtain ⟨v, h1, h2⟩ := y_slc hs hu hn hn0 y lo hi mx h
          exact ⟨v, run_map_value h1, h2⟩
      · cases h
    · cases h
  | extract y i =>
    obtain ⟨v, h1, h2⟩ := y_ext hs i y h
    exact ⟨v, run_map_value h1, h2⟩
  | makeFunc f l c =>
    simp only [compOp] at h
    refine ⟨_, ?_, y_mkf hs f l.toList c.toList h⟩
    have e1 : Array.map a.eval l = (List.map a.eval l.toList).toArray := by apply Array.ext'; simp
    have e2 : Array.map a.eval c = (List.map a.eval c.toList).toArray := by apply Array.ext'; simp
    simp only [execOp, Instr.makeFunc, e1, e2]
    rfl
  | build t parts =>
    simp only [compOp] at h
    split at h
    · rename_i fs z hu hz
      split at h
      · rename_i places hp
        split at h
        · rename_i ps hps
          obtain ⟨v, h1, h2⟩ := y_build hs hu hz hp parts hps h
          exact ⟨v, run_map_value h1, h2⟩
        · cases h
      · cases h
    · cases h
  | load t y =>
    simp only [compOp] at h
    split at h
    · rename_i n hn
      obtain ⟨v, h1, h2⟩ := y_ld hs hn y h
      exact ⟨v, run_map_value h1, h2⟩
    · cases h
  | call c =>
    obtain ⟨cal, args, ats⟩ := c
    simp only [compOp] at h
    split at h
    · split at h
      · rename_i t r y e1 e2
        have ea : args = #[y] := by apply Array.ext'; simpa using e2
        have et : ats = (t :: r).toArray := by apply Array.ext'; simpa using e1
        subst ea et
        split at h
        · rename_i hu
          obtain ⟨v, h1, h2⟩ := y_len_str (ts := r) hs hu ty y h
          exact ⟨v, by rw [builtin_run (s := do pure (.value (← Builtin.len_ (t :: r).toArray ty #[a.eval y]))) .len _ _ ty dst pos after guard (fun _ => by simp [builtin])]; exact run_map_value h1, h2⟩
        · rename_i e hu
          obtain ⟨v, h1, h2⟩ := y_len_sl (ts := r) hs hu ty y h
          exact ⟨v, by rw [builtin_run (s := do pure (.value (← Builtin.len_ (t :: r).toArray ty #[a.eval y]))) .len _ _ ty dst pos after guard (fun _ => by simp [builtin])]; exact run_map_value h1, h2⟩
        · cases h
      · cases h
    · split at h
      · rename_i y z e2
        have ea : args = #[y, z] := by apply Array.ext'; simpa using e2
        subst ea
        obtain ⟨v, h1, h2⟩ := y_mx (P := P) (S := x.S st κ) hs true ats ty y z h
        exact ⟨v, by rw [builtin_run (s := do pure (.value (← Builtin.max_ ats ty #[a.eval y, a.eval z]))) .max _ _ ty dst pos after guard (fun _ => by simp [builtin])]; exact run_map_value (by simpa using h1), h2⟩
      · cases h
    · split at h
      · rename_i y z e2
        have ea : args = #[y, z] := by apply Array.ext'; simpa using e2
        subst ea
        obtain ⟨v, h1, h2⟩ := y_mx (P := P) (S := x.S st κ) hs false ats ty y z h
        exact ⟨v, by rw [builtin_run (s := do pure (.value (← Builtin.min_ ats ty #[a.eval y, a.eval z]))) .min _ _ ty dst pos after guard (fun _ => by simp [builtin])]; exact run_map_value (by simpa using h1), h2⟩
      · cases h
    · repeat' split at h
      all_goals cases h
    · repeat' split at h
      all_goals cases h
    · cases h
    · cases h
  | _ =>
    simp only [compOp] at h
    repeat' split at h
    all_goals cases h
end
end Go.Dl
set_option linter.unusedVariables false
set_option linter.unusedSimpArgs false
namespace Go.Dl
section
variable {w : World} {S : Nat → Prop} {κ : Nat → Nat} {P : Program} {x : Fx} {st : St} {a : Act}

theorem splice_eq {α : Type} (r : List α) (off : Nat) (cs : List α) (h : off + cs.length ≤ r.length) : splice r off cs = r.take off ++ cs ++ r.drop (off + cs.length) := by
  unfold splice
  split
  · rename_i c
    simp only [List.length_singleton] at h
    rw [List.set_eq_take_append_cons_drop, if_pos (by omega)]
    simp
  · rfl
theorem splice_len {α : Type} (r : List α) (off : Nat) (cs : List α) (h : off + cs.length ≤ r.length) : (splice r off cs).length = r.length := by
  rw [splice_eq r off cs h]
  simp only [List.length_append, List.length_take, List.length_drop]
  omega
theorem splice_get {α : Type} (r : List α) (off : Nat) (cs : List α) (h : off + cs.length ≤ r.length) (j : Nat) : (splice r off cs)[j]? = if off ≤ j ∧ j < off + cs.length then cs[j - off]? else r[j]? := by
  rw [splice_eq r off cs h]
  have hl : (r.take off).length = off := by simp; omega
  by_cases h1 : j < off
  · rw [if_neg (by omega), List.append_assoc, List.getElem?_append_left (by omega)]
    simp [List.getElem?_take, h1]
  · by_cases h2 : j < off + cs.length
    · rw [if_pos ⟨by omega, h2⟩, List.getElem?_append_left (by simp only [List.length_append, hl]; omega), List.getElem?_append_right (by omega), hl]
    · rw [if_neg (by omega), List.getElem?_append_right (by simp only [List.length_append, hl]; omega), List.getElem?_drop]
      congr 1
      simp only [List.length_append, hl]
      omega

theorem storeVar_run {t n : Nat} (hn : sizeT P t = some n) (b o : Nat) (v : Value) (w : World) (hsz : v.cells.size = n) (h1 : ∀ u, u ∈ v.cells.toList → u.oneCell' = true) (ht : w.there b o n) :
    (Instr.storeAt t (.pointer (some ⟨b, o, none⟩)) v).run P w = .ok () (w.setCells b o v.cells.toList) := by
  obtain ⟨i, hi, rfl⟩ := sizeT_some hn
  have := run_storeCells_cells (P := P) b o v.cells.toList 0 w (fun j hj => by simpa using (ht j (by rw [← hsz]; simpa using hj)).1) (fun j hj => by simpa using (ht j (by rw [← hsz]; simpa using hj)).2) h1
  simp only [Nat.add_zero] at this
  simp [Instr.storeAt, Instr.sureAddr, storeVar, run_sizeOf hi, hsz, this]

theorem d_st (hs : Sat x st κ a w) {t n : Nat} (hn : sizeT P t = some n) (y1 y2 : Operand) {st' : St} (h : stepD st none (.st n (opd y1) (opd y2)) = some st') :
    ∃ w', (Instr.storeAt t (a.eval y1) (a.eval y2)).run P w = .ok () w' ∧ Sat x st' κ a w' := by
  have hy1 := hs.ev y1
  have hy2 := hs.ev y2
  simp only [stepD] at h
  generalize a.eval y1 = u1 at hy1 ⊢
  generalize a.eval y2 = u2 at hy2 ⊢
  split at h
  · rename_i k sz i off hn0 he
    rw [he] at hy1
    cases hy1
    split at h
    · rename_i ob hob
      split at h
      · rename_i hc
        obtain ⟨c1, c2, c3, c4⟩ := hc
        obtain ⟨e1, e2⟩ := cells_rel hy2 c4
        subst c2
        have hob' := hs.H k ob hob
        obtain ⟨wf, cur, e, hb, hlen, hcc⟩ := hob'
        have hcs : u2.cells.size = n := by rw [← e1, c3]
        have hone : ∀ u, u ∈ u2.cells.toList → u.oneCell' = true := by
          intro u hu
          obtain ⟨q, hq, rfl⟩ := List.getElem_of_mem hu
          have hq' : q < (st.ev (opd y2)).cells.length := by rw [e1]; simpa using hq
          have hr := e2 q _ _ (List.getElem?_eq_getElem hq') (Array.getElem?_eq_getElem (by simpa using hq))
          have := leaf_one hr (List.all_eq_true.1 c4 _ (List.getElem_mem _))
          simpa using this
        -- the row that is written
        have main : ∀ (R R' : Rows) (r : List DV), ob.rows = R → R.toM[i]? = some r → off + n ≤ r.length → R'.wf ob.sz → R'.len = R.len →
            (∀ i' j d, R'.at i' j = some d → if i' = i ∧ off ≤ j ∧ j < off + n then (st.ev (opd y2)).cells[j - off]? = some d else R.at i' j = some d) →
            ∃ w', (Instr.storeAt t (.pointer (some ⟨κ k, i * ob.sz + off, none⟩)) u2).run P w = .ok () w' ∧ Sat x (st.upd k { ob with rows := R' }) κ a w' := by
          intro R R' r hR hr hfit hwf' hlen' hat
          subst hR
          have hi : i < ob.rows.len := by rw [← Rows.toM_len]; exact (List.getElem?_eq_some_iff.1 hr).1
          have hrl : r.length = ob.sz := Rows.toM_wf wf r (List.mem_of_getElem? hr)
          have hbig : i * ob.sz + off + n ≤ cur.size := by
            have := Nat.mul_le_mul_right ob.sz (show i + 1 ≤ ob.rows.len by omega)
            rw [Nat.add_mul] at this
            omega
          obtain ⟨⟨cur', g1, g2, g3⟩, g4⟩ := setCells_heap (κ k) e u2.cells.toList (i * ob.sz + off) w cur hb
          refine ⟨_, storeVar_run hn (κ k) (i * ob.sz + off) u2 w hcs hone (fun j hj => ⟨by simp [World.cell?, hb, show i * ob.sz + off + j < cur.size by omega], by simp [World.frozen?, hb]⟩), ?_⟩
          refine hs.updOb k ob hob c1 { ob with rows := R' } g4 c1 ⟨hwf', cur', e, g1, by show R'.len * ob.sz ≤ _; rw [hlen', g2]; exact hlen, fun i' j d hd => ?_⟩
          have hkeep : Keep (x.S st κ) w (w.setCells (κ k) (i * ob.sz + off) u2.cells.toList) := g4.keep (fun b _ e => by rw [e]; exact Sat.ownedBlock hob c1)
          obtain ⟨hi', hj'⟩ := Rows.at_wf hwf' hd
          have hd' := hat i' j d hd
          show ∃ v, cur'[i' * ob.sz + j]? = some v ∧ _
          rw [g3]
          simp only [Array.length_toList, hcs]
          split at hd'
          · rename_i hcond
            obtain ⟨rfl, hj1, hj2⟩ := hcond
            have hq : j - off < u2.cells.size := by omega
            rw [if_pos ⟨by omega, by omega, by omega⟩]
            have hr := e2 (j - off) d _ hd' (Array.getElem?_eq_getElem hq)
            refine ⟨u2.cells[j - off], ?_, leaf_one hr (List.all_eq_true.1 c4 d (List.mem_of_getElem? hd')), hr.mono hkeep (fun _ _ h => h)⟩
            rw [show i' * ob.sz + j - (i' * ob.sz + off) = j - off by omega]
            simp [hq]
          · rename_i hcond
            obtain ⟨v, q1, q2, q3⟩ := hcc i' j d hd'
            rw [if_neg ?_]
            · exact ⟨v, q1, q2, q3.mono hkeep (fun _ _ h => h)⟩
            · rintro ⟨p1, p2, _⟩
              by_cases hii : i' = i
              · subst hii; exact hcond ⟨rfl, by omega, by omega⟩
              · rcases Nat.lt_or_gt_of_ne hii with hlt | hlt
                · have := Nat.mul_le_mul_right ob.sz (show i' + 1 ≤ i by omega)
                  rw [Nat.add_mul] at this
                  omega
                · have := Nat.mul_le_mul_right ob.sz (show i + 1 ≤ i' by omega)
                  rw [Nat.add_mul] at this
                  omega
        have setAt : ∀ {α : Type} (rows : List (List α)) (r cs : List α) (hr : rows[i]? = some r) (hfit : off + cs.length ≤ r.length) (i' j : Nat) (c : α), rowAt (rows.set i (splice r off cs)) i' j = some c →
            if i' = i ∧ off ≤ j ∧ j < off + cs.length then cs[j - off]? = some c else rowAt rows i' j = some c := by
          intro α rows r cs hr hfit i' j c h
          unfold rowAt at h ⊢
          rw [List.getElem?_set] at h
          by_cases hii : i = i'
          · subst hii
            rw [if_pos rfl, if_pos (List.getElem?_eq_some_iff.1 hr).1] at h
            simp only [Option.bind_some, splice_get r off cs hfit] at h
            by_cases hj : off ≤ j ∧ j < off + cs.length
            · rw [if_pos hj] at h; rw [if_pos ⟨rfl, hj⟩]; exact h
            · rw [if_neg hj] at h; rw [if_neg (fun q => hj q.2), hr]; exact h
          · rw [if_neg hii] at h
            rw [if_neg (fun q => hii q.1.symm)]
            exact h
        split at h
        · rename_i rows ps hrows hps
          split at h
          · rename_i r hr
            split at h
            · rename_i hfit
              cases h
              have epc := pures_get hps
              have hpl : ps.length = n := by rw [← c3, epc, List.length_map]
              refine main (.p rows) (.p (rows.set i (splice r off ps))) (r.map .p) hrows (by simp [Rows.toM, hr]) (by simpa using hfit) (fun y hy => ?_) (by simp [Rows.len]) (fun i' j d hd => ?_)
              · have wf' : (Rows.p rows).wf ob.sz := by rw [← hrows]; exact wf
                rcases List.mem_or_eq_of_mem_set hy with hy | rfl
                · exact wf' y hy
                · rw [splice_len _ _ _ (by omega)]; exact wf' r (List.mem_of_getElem? hr)
              · simp only [Rows.at, Option.map_eq_some_iff] at hd
                obtain ⟨c, hc, rfl⟩ := hd
                have := setAt rows r ps hr (by omega) i' j c hc
                rw [hpl] at this
                split at this
                · rename_i q; rw [if_pos q, epc]; simp [this]
                · rename_i q; rw [if_neg q]; simp [Rows.at, this]
            · cases h
          · cases h
        · rename_i hrows
          split at h
          · rename_i r hr
            split at h
            · rename_i hfit
              cases h
              refine main ob.rows (.m (ob.rows.toM.set i (splice r off (st.ev (opd y2)).cells))) r rfl hr hfit (fun y hy => ?_) (by show (List.set _ _ _).length = _; rw [List.length_set, Rows.toM_len]) (fun i' j d hd => ?_)
              · rcases List.mem_or_eq_of_mem_set hy with hy | rfl
                · exact Rows.toM_wf wf y hy
                · rw [splice_len _ _ _ (by omega)]; exact Rows.toM_wf wf r (List.mem_of_getElem? hr)
              · have := setAt ob.rows.toM r (st.ev (opd y2)).cells hr (by omega) i' j d hd
                rw [c3] at this
                rw [← Rows.toM_at]
                exact this
            · cases h
          · cases h
      · cases h
    · cases h
  · cases h

def DOp.isHeap : DOp → Bool
  | .alloc _ => true
  | .box _ _ => true
  | .bsl _ _ _ _ => true
  | .mks _ _ _ _ _ => true
  | .st _ _ _ => true
  | .app _ _ _ _ => true
  | _ => false
theorem stepD_val {st st' : St} {dst : Option Nat} {o : DOp} (hh : o.isHeap = false) (h : stepD st dst o = some st') : ∃ d, dst = some d ∧ (evOp st o).map (st.set d) = some st' := by
  cases o <;> first
    | (simp [DOp.isHeap] at hh; done)
    | (cases dst with
       | none => simp [stepD] at h
       | some d => exact ⟨d, rfl, by simpa only [stepD] using h⟩)

def Op.isMem : Op → Bool
  | .alloc _ => true
  | .box _ _ => true
  | .buildSlice _ _ _ => true
  | .makeSlice _ _ _ => true
  | .store _ _ _ => true
  | .call _ => true
  | _ => false
theorem compOp_val (P : Program) (o : Op) (h : Op.isMem o = false) : (compOp P o).isHeap = false := by
  cases o <;> first
    | (simp [Op.isMem] at h; done)
    | (simp only [compOp]; repeat' split) <;> rfl

/-- One operation, its guard met. -/
theorem stepD_sound (hs : Sat x st κ a w) (o : Oper) (hd : ∀ d, o.dst = some d → d < st.nt) {st' : St} (h : stepD st o.dst (compOp P o.op) = some st') :
    ∃ v w' κ', ((execOp a.eval o).run P w = .ok (.value v) w' ∨ ((execOp a.eval o).run P w = .ok .skip w' ∧ v = undef)) ∧ Sat x st' κ' (a.put o.dst v) w' := by
  have val : (∀ d, o.dst = some d → (evOp st (compOp P o.op)).map (st.set d) = some st') → (∃ d, o.dst = some d) →
      ∃ v w' κ', ((execOp a.eval o).run P w = .ok (.value v) w' ∨ ((execOp a.eval o).run P w = .ok .skip w' ∧ v = undef)) ∧ Sat x st' κ' (a.put o.dst v) w' := by
    rintro hv ⟨d, hdst⟩
    have := hv d hdst
    simp only [Option.map_eq_some_iff] at this
    obtain ⟨dv, h1, rfl⟩ := this
    obtain ⟨v, g1, g2⟩ := evOp_sound hs o dv h1
    exact ⟨v, w, κ, .inl g1, by rw [hdst]; exact hs.set d (hd d hdst) dv v g2⟩
  obtain ⟨dst, op, ty, pos, after, guard⟩ := o
  simp only at hd h val ⊢
  cases op with
  | alloc t =>
    simp only [compOp] at h
    split at h
    · rename_i z hz
      simp only [stepD] at h
      split at h
      · rename_i k
        split at h
        · rename_i hl
          cases h
          obtain ⟨v, w', h1, h2⟩ := d_alloc hs hz k (hd k rfl) (by simpa using hl)
          exact ⟨v, w', _, .inl (run_map_value h1), h2⟩
        · cases h
      · cases h
    · simp [stepD, evOp] at h
      cases dst <;> simp at h
  | box t y =>
    simp only [compOp] at h
    split at h
    · cases dst with
      | none => simp [stepD] at h
      | some k =>
        obtain ⟨v, w', h1, h2⟩ := d_box (P := P) hs t y k (hd k rfl) h
        exact ⟨v, w', _, .inl (run_map_value h1), h2⟩
    · cases dst <;> simp [stepD, evOp] at h
  | buildSlice t n parts =>
    simp only [compOp] at h
    split at h
    · rename_i e hu
      split at h
      · rename_i s z hsz hz
        split at h
        · cases dst with
          | none => simp [stepD] at h
          | some k =>
            obtain ⟨v, w', h1, h2⟩ := d_bsl hs hu hsz hz n parts k (hd k rfl) h
            exact ⟨v, w', _, .inl (run_map_value h1), h2⟩
        · cases dst <;> simp [stepD, evOp] at h
      · cases dst <;> simp [stepD, evOp] at h
    · cases dst <;> simp [stepD, evOp] at h
  | makeSlice t l c =>
    simp only [compOp] at h
    split at h
    · rename_i e hu
      split at h
      · rename_i ie z hie hz
        split at h
        · cases dst with
          | none => simp [stepD] at h
          | some k =>
            obtain ⟨v, w', h1, h2⟩ := d_mks hs hu hie hz l c k (hd k rfl) h
            exact ⟨v, w', _, .inl (run_map_value h1), h2⟩
        · cases dst <;> simp [stepD, evOp] at h
      · cases dst <;> simp [stepD, evOp] at h
    · cases dst <;> simp [stepD, evOp] at h
  | store t y z =>
    simp only [compOp] at h
    split at h
    · rename_i n hn
      cases dst with
      | some k => simp [stepD] at h
      | none =>
        obtain ⟨w', h1, h2⟩ := d_st (P := P) hs hn y z h
        refine ⟨undef, w', κ, .inr ⟨?_, rfl⟩, h2⟩
        simp [execOp, h1]
    · cases dst <;> simp [stepD, evOp] at h
  | call c =>
    by_cases hh : (compOp P (.call c)).isHeap = false
    · obtain ⟨d, h1, h2⟩ := stepD_val hh h
      exact val (fun d' hd' => by rw [h1] at hd'; cases hd'; exact h2) ⟨d, h1⟩
    · obtain ⟨cal, args, ats⟩ := c
      simp only [compOp] at h hh
      split at h
      · exfalso; apply hh; dsimp only; repeat' split
        all_goals rfl
      · exfalso; apply hh; dsimp only; repeat' split
        all_goals rfl
      · exfalso; apply hh; dsimp only; repeat' split
        all_goals rfl
      · split at h
        · rename_i t u y z e1 e2
          have ea : args = #[y, z] := by apply Array.ext'; simpa using e2
          have et : ats = #[t, u] := by apply Array.ext'; simpa using e1
          subst ea et
          split at h
          · rename_i e hu
            split at h
            · rename_i ie z' hie hz
              split at h
              · rename_i hzl
                have app : ∀ (hkx : (∃ e', P.underlying u = some (.slice e')) ∨ P.underlying u = some .string), stepD st dst (.app ie.size ie.bytes (opd y) (opd z)) = some st' →
                    ∃ v w' κ', ((execOp a.eval { dst := dst, op := .call { callee := .builtin .append, args := #[y, z], argTypes := #[t, u] }, type := ty, pos := pos, after := after, guard := guard }).run P w = .ok (.value v) w' ∨
                      ((execOp a.eval { dst := dst, op := .call { callee := .builtin .append, args := #[y, z], argTypes := #[t, u] }, type := ty, pos := pos, after := after, guard := guard }).run P w = .ok .skip w' ∧ v = undef)) ∧ Sat x st' κ' (a.put dst v) w' := by
                  intro hkx h
                  cases dst with
                  | none => simp [stepD] at h
                  | some k =>
                    obtain ⟨v, w', κ', h1, h2⟩ := d_app (P := P) hs (ty := ty) hu hie hz hzl hkx y z k (hd k rfl) h
                    refine ⟨v, w', κ', .inl ?_, h2⟩
                    rw [builtin_run (s := do pure (.value (← Builtin.append_ #[t, u] ty #[a.eval y, a.eval z]))) .append _ _ ty (some k) pos after guard (fun _ => by simp [builtin])]
                    exact run_map_value h1
                split at h
                · rename_i e' hu2
                  exact app (.inl ⟨e', hu2⟩) h
                · rename_i hu2
                  exact app (.inr hu2) h
                · cases dst <;> simp [stepD, evOp] at h
              · cases dst <;> simp [stepD, evOp] at h
            · cases dst <;> simp [stepD, evOp] at h
          · cases dst <;> simp [stepD, evOp] at h
        · cases dst <;> simp [stepD, evOp] at h
      · exfalso; apply hh; dsimp only; repeat' split
        all_goals rfl
      · exfalso; apply hh; rfl
      · cases dst <;> simp [stepD, evOp] at h
  | _ =>
    obtain ⟨d, h1, h2⟩ := stepD_val (compOp_val P _ rfl) h
    exact val (fun d' hd' => by rw [h1] at hd'; cases hd'; exact h2) ⟨d, h1⟩
end
end Go.Dl
