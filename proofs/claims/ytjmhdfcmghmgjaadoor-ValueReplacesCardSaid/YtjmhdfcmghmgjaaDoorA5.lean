/- Code, statement by statement, over symbolic states; calls; functions. What is owed for code, reckoned by simp; calls and loops stay. -/
import Derived.Test.YtjmhdfcmghmgjaaDoorA4
import Derived.Deep.LoopGhost
import Derived.RangeFuncCalls
import Derived.Still
import Derived.OrdersIn
set_option linter.unusedVariables false
set_option linter.unusedSimpArgs false
namespace Go.Dl

/-! ### code with resolved types -/

def dstOk (nt : Nat) : Option Nat → Bool
  | none => true
  | some d => decide (d < nt)
def compOper (P : Program) (nt : Nat) (ops : Array Oper) (o : Oper) : DOper :=
  if dstOk nt o.dst then
    match o.guard with
    | none => ⟨o.dst, compOp P o.op, none⟩
    | some (j, b) => match (ops[j]?).bind (·.dst) with
      | some d => if d < nt then ⟨o.dst, compOp P o.op, some (d, b)⟩ else ⟨o.dst, .bad, none⟩
      | none => ⟨o.dst, .bad, none⟩
  else ⟨o.dst, .bad, none⟩

def idxMap {α β : Type} (f : Nat → α → β) : Nat → List α → List β
  | _, [] => []
  | n, a :: r => f n a :: idxMap f (n + 1) r
def isSt : Op → Bool
  | .store _ _ _ => true
  | _ => false
def bef (o : Oper) (j : Nat) : Bool := o.after.toList.any fun e => Region.binds .any e && e.on == j
/-- the stores that have no edge with operation i -/
def unst (ops : Array Oper) (i : Nat) (o : Oper) : List Nat := (List.range ops.size).filter fun j => match ops[j]? with
  | some p => isSt p.op && (j != i && !(if j < i then bef o j else bef p i))
  | none => false

def compCode (P : Program) (nt : Nat) : Code → DCode
  | .skip => .skip
  | .region _ ops draw => if draw then .draw (idxMap (fun i o => (compOper P nt ops o, o.looksAt ops, unst ops i o)) 0 ops.toList) else .reg (ops.toList.map (compOper P nt ops))
  | .seq a b => .seq (compCode P nt a) (compCode P nt b)
  | .cond c x y => .cond (opd c) (compCode P nt x) (compCode P nt y)
  | .block i b => .block i (compCode P nt b)
  | .loop b => .loop (compCode P nt b)
  | .rangeFunc f ps a b => .range (opd f) ps.toList (compCode P nt a) (compCode P nt b)
  | .exit i => .exit i
  | .scope b => .scope (compCode P nt b)
  | .label _ => .label
  | .ret => .ret
  | _ => .bad

/-- regions that draw their order: the order of the text is one of theirs, and stands for all -/
def dOk : Code → Bool
  | .region _ ops d => !d || Region.lexB .any ops
  | .seq a b => dOk a && dOk b
  | .cond _ a b => dOk a && dOk b
  | .block _ a => dOk a
  | .loop a => dOk a
  | .scope a => dOk a
  | .rangeFunc _ _ a b => dOk a && dOk b
  | _ => true
def fOk (f : Func) : Bool := match f.body with | some c => dOk c | none => true
class DGood (P : Program) : Prop where
  fok : P.funcs.all fOk = true
  mixed : P.follows .mixedOrders = true
theorem DGood.body {P : Program} [G : DGood P] {f : FuncId} {fn : Func} {c : Code} (h : P.funcs[f]? = some fn) (hc : fn.body = some c) : dOk c = true := by
  have := Array.all_eq_true_iff_forall_mem.1 G.fok fn (Array.mem_of_getElem? h)
  simpa [fOk, hc] using this

/-- fences that bar nothing -/
def Free (F : Fence) : Prop := F = Fence.wide ∨ ∃ l, F = Fence.wide.inRound l

theorem Free.wide : Free Fence.wide := .inl rfl
theorem Free.fn {F : Fence} (h : Free F) (f : FuncId) : F.fn f := by rcases h with rfl | ⟨l, rfl⟩ <;> trivial
theorem Free.depth {F : Fence} (h : Free F) : F.depth = none := by rcases h with rfl | ⟨l, rfl⟩ <;> rfl

section
variable (F : Fence) (P : Program) (nt : Nat) (x : Fx)

def OkC (c : Code) (Q : Exit → St → Prop) (st : St) : Prop :=
  ∀ n κ a w, Sat x st κ a w → c.wpIn F n P (fun e a' w' => ∃ st' κ', Q e st' ∧ Sat x st' κ' a' w' ∧ st'.nt = nt) a w

/-- From the state st on the code ends so that Q. -/
def Ok (dc : DCode) (Q : Exit → St → Prop) (st : St) : Prop := st.nt = nt → ∀ c, dOk c = true → compCode P nt c = dc → OkC F P nt x c Q st

def OkOps (ops : List DOper) (Q : St → Prop) (st : St) : Prop :=
  st.nt = nt → ∀ (arr : Array Oper) (idx : List Nat), idx.map (fun i => (arr[i]?).map (compOper P nt arr)) = ops.map some →
    ∀ n κ a w, Sat x st κ a w → ∀ K : Exit → Act → World → Prop, (∀ st' κ' a' w', Q st' → Sat x st' κ' a' w' → st'.nt = nt → K .normal a' w') → wpOpsIn F n P arr K idx a w
end

section
variable {F : Fence} {P : Program} {nt : Nat} {x : Fx} {Q : Exit → St → Prop} {st : St}

theorem ok_mono {dc : DCode} {Q' : Exit → St → Prop} (h : Ok F P nt x dc Q st) (hq : ∀ e s, Q e s → Q' e s) : Ok F P nt x dc Q' st :=
  fun hn c hd hc n κ a w hs => wpIn_mono (h hn c hd hc n κ a w hs) fun e a' w' ⟨s, k, q, r⟩ => ⟨s, k, hq _ _ q, r⟩

/-- what is forgotten, or seen otherwise -/
theorem ok_sub {dc : DCode} {st' : St} (hs : st.Sub st') (h : Ok F P nt x dc Q st') : Ok F P nt x dc Q st :=
  fun hn c hd hc n κ a w hsat => h (hs.1.trans hn) c hd hc n κ a w (hsat.sub hs)

theorem ok_skip (h : Q .normal st) : Ok F P nt x .skip Q st := by
  intro hn c hd hc n κ a w hs
  cases c <;> first
    | (simp only [compCode] at hc; split at hc <;> cases hc; done)
    | (simp [compCode] at hc; done)
    | exact wpIn_skip ⟨st, κ, h, hs, hn⟩
theorem ok_label (h : Q .normal st) : Ok F P nt x .label Q st := by
  intro hn c hd hc n κ a w hs
  cases c <;> first
    | (simp only [compCode] at hc; split at hc <;> cases hc; done)
    | (simp [compCode] at hc; done)
    | exact wpIn_label ⟨st, κ, h, hs, hn⟩
theorem ok_ret (h : Q .ret st) : Ok F P nt x .ret Q st := by
  intro hn c hd hc n κ a w hs
  cases c <;> first
    | (simp only [compCode] at hc; split at hc <;> cases hc; done)
    | (simp [compCode] at hc; done)
    | exact wpIn_ret ⟨st, κ, h, hs, hn⟩
theorem ok_exit {i : Nat} (h : Q (.exit i) st) : Ok F P nt x (.exit i) Q st := by
  intro hn c hd hc n κ a w hs
  cases c <;> first
    | (simp only [compCode] at hc; split at hc <;> cases hc; done)
    | (simp [compCode] at hc; done)
    | (simp only [compCode, DCode.exit.injEq] at hc; subst hc; exact wpIn_exit ⟨st, κ, h, hs, hn⟩)
theorem ok_seq {d e : DCode} (h : Ok F P nt x d (fun ex s => match ex with | .normal => Ok F P nt x e Q s | ex => Q ex s) st) : Ok F P nt x (.seq d e) Q st := by
  intro hn c hd hc n κ a w hs
  cases c <;> first
    | (simp only [compCode] at hc; split at hc <;> cases hc; done)
    | (simp [compCode] at hc; done)
    | skip
  simp only [compCode, DCode.seq.injEq] at hc
  simp only [dOk, Bool.and_eq_true] at hd
  refine wpIn_seq (wpIn_mono (h hn _ hd.1 hc.1 n κ a w hs) ?_)
  rintro ex a' w' ⟨s, k, q, hs', hn'⟩
  cases ex <;> first
    | exact ⟨s, k, q, hs', hn'⟩
    | exact q hn' _ hd.2 hc.2 n k a' w' hs'
theorem ok_cond {c : DOpd} {d e : DCode} {t : Bool} (hc : st.ev c = .p (.bool t)) (h1 : t = true → Ok F P nt x d Q st) (h2 : t = false → Ok F P nt x e Q st) : Ok F P nt x (.cond c d e) Q st := by
  intro hn c' hd hc' n κ a w hs
  cases c' <;> first
    | (simp only [compCode] at hc'; split at hc' <;> cases hc'; done)
    | (simp [compCode] at hc'; done)
    | skip
  rename_i o cx cy
  simp only [compCode, DCode.cond.injEq] at hc'
  obtain ⟨rfl, hx, hy⟩ := hc'
  have he := hs.ev o
  rw [hc] at he
  simp only [dOk, Bool.and_eq_true] at hd
  exact wpIn_cond_split he.bool_inv (fun ht => h1 ht hn _ hd.1 hx n κ a w hs) (fun ht => h2 ht hn _ hd.2 hy n κ a w hs)
theorem ok_block {i : Nat} {d : DCode} (h : Ok F P nt x d (fun ex s => match ex with | .exit j => if j = i then Q .normal s else Q (.exit j) s | ex => Q ex s) st) : Ok F P nt x (.block i d) Q st := by
  intro hn c hd hc n κ a w hs
  cases c <;> first
    | (simp only [compCode] at hc; split at hc <;> cases hc; done)
    | (simp [compCode] at hc; done)
    | skip
  simp only [compCode, DCode.block.injEq] at hc
  obtain ⟨rfl, hb⟩ := hc
  refine wpIn_block (wpIn_mono (h hn _ (by exact hd) hb n κ a w hs) ?_)
  rintro ex a' w' ⟨s, k, q, hs', hn'⟩
  cases ex <;> first
    | exact ⟨s, k, q, hs', hn'⟩
    | (simp only [Exit.inBlock] at q ⊢
       split at q
       · rename_i e; rw [if_pos e]; exact ⟨s, k, q, hs', hn'⟩
       · rename_i e; rw [if_neg e]; exact ⟨s, k, q, hs', hn'⟩)
theorem stepR_scope {b : Frame} {a : Act} {w : World} {k : List Item} {cs : List Frame} {c : Code} : step P (lone (b.atR a (.code (.scope c) :: k)) cs w) = .next (lone (b.atR a (.code c :: .inScope c :: k)) cs w) :=
  step_lone_go (by simp [stepG, stepG.exec, Frame.atR])
theorem stepR_inScope {b : Frame} {a : Act} {w : World} {k : List Item} {cs : List Frame} {c : Code} : step P (lone (b.atR a (.inScope c :: k)) cs w) = .next (lone (b.atR a k) cs w) :=
  step_lone_go (by simp [stepG, stepG.exec, Frame.atR])
theorem wpIn_scope {n : Nat} {Q : Exit → Act → World → Prop} {a : Act} {w : World} {c : Code} (h : c.wpIn F n P (fun e a w => match e with | .goto _ => False | e => Q e a w) a w) : (Code.scope c).wpIn F n P Q a w := by
  intro b k cs hro hb hr
  have h0 : (lone (b.atR a (.code (.scope c) :: k)) cs w).fenced P F := fenced_calm hb hr rfl
  obtain ⟨e, a₁, w₁, hq, harr⟩ := h b (.inScope c :: k) cs hro hb hr
  cases e with
  | normal => exact ⟨.normal, a₁, w₁, hq, .head h0 stepR_scope (StepsIn.trans harr (.one (fenced_calm hb hr rfl) stepR_inScope))⟩
  | exit id' =>
    have hx : exitTo id' (.inScope c :: k) = exitTo id' k := by simp [exitTo]
    exact ⟨.exit id', a₁, w₁, hq, fun k' hk => .head h0 stepR_scope (harr.1 k' (by rw [hx]; exact hk)),
      fun hr' hk => let ⟨k₁, h1, h2⟩ := harr.2 hr' (by rw [hx]; exact hk); ⟨k₁, h1, .head h0 stepR_scope h2⟩⟩
  | goto l => exact hq.elim
  | ret => exact ⟨_, a₁, w₁, hq, .of_steps (.one h0 stepR_scope) harr⟩
  | panic ch => exact ⟨_, a₁, w₁, hq, .of_steps (.one h0 stepR_scope) harr⟩
  | outgrown => exact ⟨_, a₁, w₁, hq, .of_steps (.one h0 stepR_scope) harr⟩
def Ksc (Q : Exit → St → Prop) (e : Exit) (s : St) : Prop := match e with | .goto _ => False | e => Q e s
theorem ok_scope {d : DCode} (h : Ok F P nt x d (Ksc Q) st) : Ok F P nt x (.scope d) Q st := by
  intro hn c hd hc n κ a w hs
  cases c <;> first
    | (simp only [compCode] at hc; split at hc <;> cases hc; done)
    | (simp [compCode] at hc; done)
    | skip
  simp only [compCode, DCode.scope.injEq] at hc
  refine wpIn_scope (wpIn_mono (h hn _ (by exact hd) hc n κ a w hs) ?_)
  rintro ex a' w' ⟨s, k, q, hs', hn'⟩
  cases ex <;> first
    | exact ⟨s, k, q, hs', hn'⟩
    | exact q
theorem wpIn_loop_ghost {n : Nat} {Q : Exit → Act → World → Prop} {a : Act} {w : World} {c : Code} (I : Nat → Act → World → Prop) (n₀ : Nat) (h₀ : I n₀ a w)
    (round : ∀ m a w, I m a w → c.wpIn F n P (Exit.then (fun a' w' => ∃ m', m' < m ∧ I m' a' w') Q) a w) : (Code.loop c).wpIn F n P Q a w := by
  refine wpIn_loop (fun a w => ∃ m, I m a w) (fun a w => leastOf fun m => I m a w) ⟨n₀, h₀⟩ fun a w hI => ?_
  have hl := leastOf_spec hI
  refine wpIn_mono (round _ a w hl.1) fun e a' w' h => ?_
  cases e with
  | normal =>
    obtain ⟨m', hm', hI'⟩ := h
    exact ⟨⟨m', hI'⟩, Nat.lt_of_le_of_lt ((leastOf_spec ⟨m', hI'⟩).2 m' hI') hm'⟩
  | _ => exact h

/-- A loop: states I at its head, each round with a lesser measure. -/
theorem ok_loop {α : Type} {d : DCode} (I : α → St) (J : α → Prop) (μ : α → Nat) (y : α) (hJ : J y) (h0 : st.Sub (I y))
    (h : ∀ y, J y → Ok F P nt x d (fun ex s => match ex with | .normal => ∃ z, J z ∧ μ z < μ y ∧ s.Sub (I z) | ex => Q ex s) (I y)) : Ok F P nt x (.loop d) Q st := by
  intro hn c hd hc n κ a w hs
  cases c <;> first
    | (simp only [compCode] at hc; split at hc <;> cases hc; done)
    | (simp [compCode] at hc; done)
    | skip
  simp only [compCode, DCode.loop.injEq] at hc
  refine wpIn_loop_ghost (fun m a w => ∃ z κ, μ z = m ∧ J z ∧ (I z).nt = nt ∧ Sat x (I z) κ a w) (μ y) ⟨y, κ, rfl, hJ, h0.1.trans hn, hs.sub h0⟩ ?_
  rintro m a w ⟨z, κ, hm, hz, hnz, hsz⟩
  refine wpIn_mono (h z hz hnz _ (by exact hd) hc n κ a w hsz) ?_
  rintro ex a' w' ⟨s, k, q, hs', hn'⟩
  cases ex <;> first
    | exact ⟨s, k, q, hs', hn'⟩
    | (obtain ⟨z', hz', hlt, hsub⟩ := q
       exact ⟨μ z', by omega, z', k, rfl, hz', hsub.1.trans hn', hs'.sub hsub⟩)

/-! ### operations in a row -/

theorem ok_reg {ops : List DOper} (h : OkOps F P nt x ops (Q .normal) st) : Ok F P nt x (.reg ops) Q st := by
  intro hn c hdo hc n κ a w hs
  cases c <;> first
    | (simp [compCode] at hc; done)
    | skip
  rename_i id arr draw
  simp only [compCode] at hc
  split at hc
  · cases hc
  · rename_i hd
    cases hc
    obtain rfl : draw = false := by simpa using hd
    refine wpIn_region ?_
    have := h hn arr (List.range arr.size) (by
      apply List.ext_getElem?
      intro i
      by_cases hi : i < arr.size <;> simp [hi]) n κ a w hs (fun e a' w' => ∃ st' κ', Q e st' ∧ Sat x st' κ' a' w' ∧ st'.nt = nt) (fun s k a' w' q hs' hn' => ⟨s, k, q, hs', hn'⟩)
    exact this

theorem oks_nil {R : St → Prop} (h : R st) : OkOps F P nt x [] R st := by
  intro hn arr idx hi n κ a w hs K hK
  have : idx = [] := by simpa using hi
  subst this
  exact hK st κ a w h hs hn

theorem semAt_eq {ro : Option Nat} {ρ : Operand → Value} {o : Oper} (h : ∀ c, o.op ≠ .defer c) : o.semAt ro ρ = execOp ρ o := by
  unfold Oper.semAt
  split
  · rename_i l c hc; exact (h c hc).elim
  · rfl

theorem yielded_bool {arr : Array Oper} {κ : Nat → Nat} {a : Act} {w : World} (hs : Sat x st κ a w) {j d : Nat} (hj : (arr[j]?).bind (·.dst) = some d) (hd : d < st.nt) {b : Bool} (hg : st.get d = .p (.bool b)) : yielded arr a.tmps j = some b := by
  have h := hs.get d
  rw [hg] at h
  have hv := h.bool_inv
  have hlt : d < a.tmps.size := by rw [hs.nt]; exact hd
  unfold yielded
  rw [hj]
  have : a.tmps[d]? = some (.bool b) := by
    rw [Array.getElem?_eq_getElem hlt]
    have : a.tmps.getD d undef = a.tmps[d] := by simp [Array.getD, hlt]
    rw [← this, hv]
  simp [this]

theorem und_rel (w : World) (S : Nat → Prop) (κ : Nat → Nat) : DRel w S κ (.p (.tup [])) undef := .p _ _ (.tup [] [] rfl (fun i c v hc => by simp at hc))
theorem yielded_und {arr : Array Oper} {κ : Nat → Nat} {a : Act} {w : World} (hs : Sat x st κ a w) {j d : Nat} (hj : (arr[j]?).bind (·.dst) = some d) (hg : st.get d = .p (.tup [])) : yielded arr a.tmps j = none := by
  have h := hs.get d
  rw [hg] at h
  cases h with | p _ _ h =>
  unfold yielded
  rw [hj]
  simp only [Option.bind_some]
  by_cases hlt : d < a.tmps.size
  · rw [Array.getElem?_eq_getElem hlt]
    have e : a.tmps.getD d undef = a.tmps[d] := by simp [Array.getD, hlt]
    rw [e] at h
    generalize a.tmps[d] = v at h
    cases h with | tup _ vs hl _ => rfl
  · rw [Array.getElem?_eq_none (by omega)]

theorem stepD_nt {st st' : St} {dst : Option Nat} {o : DOp} (h : stepD st dst o = some st') : st'.nt = st.nt := by
  by_cases hh : o.isHeap = false
  · obtain ⟨d, _, h⟩ := stepD_val hh h
    simp only [Option.map_eq_some_iff] at h
    obtain ⟨_, _, rfl⟩ := h
    rfl
  · cases o <;> simp [DOp.isHeap] at hh <;> simp only [stepD] at h <;> (repeat' split at h) <;> first
      | (cases h; done)
      | (cases h; rfl)

theorem compOper_op {arr : Array Oper} {o : Oper} {d : DOper} (h : compOper P nt arr o = d) : d.dst = o.dst ∧ ((d.op = .bad ∧ d.g = none) ∨ (d.op = compOp P o.op ∧ (∀ k, o.dst = some k → k < nt) ∧
    ((o.guard = none ∧ d.g = none) ∨ ∃ j b k, o.guard = some (j, b) ∧ (arr[j]?).bind (·.dst) = some k ∧ k < nt ∧ d.g = some (k, b)))) := by
  unfold compOper at h
  split at h
  · rename_i hd
    have hdst : ∀ k, o.dst = some k → k < nt := by
      intro k hk
      rw [hk] at hd
      simpa [dstOk] using hd
    split at h
    · rename_i hg
      subst h
      exact ⟨rfl, .inr ⟨rfl, hdst, .inl ⟨hg, rfl⟩⟩⟩
    · rename_i j b hg
      split at h
      · rename_i k hk
        split at h
        · rename_i hlt
          subst h
          exact ⟨rfl, .inr ⟨rfl, hdst, .inr ⟨j, b, k, hg, hk, hlt, rfl⟩⟩⟩
        · subst h; exact ⟨rfl, .inl ⟨rfl, rfl⟩⟩
      · subst h; exact ⟨rfl, .inl ⟨rfl, rfl⟩⟩
  · subst h; exact ⟨rfl, .inl ⟨rfl, rfl⟩⟩

theorem stepD_bad {st : St} {dst : Option Nat} : stepD st dst .bad = none := by cases dst <;> simp [stepD, evOp]

theorem not_defer {o : Op} (h : compOp P o ≠ .bad) : ∀ c, o ≠ .defer c := by
  rintro c rfl
  exact h rfl

/-- one operation -/
theorem oks_step (hF : Free F) {R : St → Prop} {o : DOper} {ops : List DOper} {st' : St} (hst : stepGd st o = some st') (h : OkOps F P nt x ops R st') : OkOps F P nt x (o :: ops) R st := by
  intro hn arr idx hi n κ a w hs K hK
  cases idx with
  | nil => simp at hi
  | cons i rest =>
    simp only [List.map_cons, List.cons.injEq, Option.map_eq_some_iff] at hi
    obtain ⟨⟨oo, hoo, hco⟩, hrest⟩ := hi
    have hcc := compOper_op hco
    have hdo : ∀ (st' : St), stepD st o.dst o.op = some st' → (o.dst = oo.dst ∧ o.op = compOp P oo.op ∧ ∀ k, oo.dst = some k → k < nt) → OkOps F P nt x ops R st' → oo.wpIn F n P a w (wpOpsIn F n P arr K rest) K := by
      rintro st' hs1 ⟨e1, e2, e3⟩ h
      rw [e1, e2] at hs1
      refine ⟨fun f _ => hF.fn f, ?_⟩
      rw [semAt_eq (not_defer (P := P) (fun hb => by rw [hb, stepD_bad] at hs1; cases hs1))]
      have hn1 := stepD_nt hs1
      obtain ⟨v, w', κ', h1, h2⟩ := stepD_sound hs oo (fun d hd => by rw [hn]; exact e3 d hd) hs1
      rcases h1 with h1 | ⟨h1, rfl⟩
      · rw [h1]; exact h (hn1.trans hn) arr rest hrest n κ' _ w' h2 K hK
      · rw [h1]; exact h (hn1.trans hn) arr rest hrest n κ' _ w' h2 K hK
    show wpOpsIn F n P arr K (i :: rest) a w
    simp only [wpOpsIn, hoo]
    obtain ⟨e1, hcc⟩ := hcc
    rcases hcc with ⟨hb1, hb2⟩ | ⟨e2, e3, hg⟩
    · simp only [stepGd, hb2, hb1, stepD_bad] at hst
      cases hst
    · rcases hg with ⟨g1, g2⟩ | ⟨j, b, k, g1, g2, g3, g4⟩
      · have hw : Region.wanted oo (yielded arr a.tmps) = true := by simp [Region.wanted, g1]
        rw [if_pos hw]
        simp only [stepGd, g2] at hst
        exact hdo st' hst ⟨e1, e2, e3⟩ h
      · have hskip : Region.wanted oo (yielded arr a.tmps) = false → (match o.dst with | some d => some (st.set d (.p (.tup []))) | none => some st) = some st' →
            (if Region.wanted oo (yielded arr a.tmps) = true then oo.wpIn F n P a w (wpOpsIn F n P arr K rest) K else (∀ f, oo.about P w a.eval = some f → F.fn f) ∧ wpOpsIn F n P arr K rest (a.put oo.dst undef) w) := by
          intro hw hst
          rw [if_neg (by rw [hw]; decide)]
          refine ⟨fun f _ => hF.fn f, ?_⟩
          cases hd : oo.dst with
          | none =>
            rw [e1, hd] at hst
            cases hst
            exact h hn arr rest hrest n κ _ w hs K hK
          | some d =>
            rw [e1, hd] at hst
            cases hst
            exact h hn arr rest hrest n κ _ w (hs.set d (by rw [hn]; exact e3 d hd) (.p (.tup [])) undef (und_rel _ _ _)) K hK
        simp only [stepGd, g4] at hst
        split at hst
        · rename_i t ht
          have hy := yielded_bool hs g2 (by rw [hn]; exact g3) ht
          by_cases htb : t = b
          · rw [if_pos htb] at hst
            rw [if_pos (by simp [Region.wanted, g1, hy, htb])]
            exact hdo st' hst ⟨e1, e2, e3⟩ h
          · rw [if_neg htb] at hst
            exact hskip (by simp [Region.wanted, g1, hy, htb]) hst
        · rename_i ht
          have hy := yielded_und (arr := arr) hs g2 ht
          exact hskip (by simp [Region.wanted, g1, hy]) hst
        · cases hst

/-! ### calls -/

/-- Called with values that read as args the function f returns a value that reads as one of R; what was there stays. -/
def PCall (P : Program) (f : FuncId) (args : List PV) (R : PV → Prop) : Prop :=
  ∀ (w : World) (S : Nat → Prop) (vs : List Value), (∀ b, S b → b < w.heap.size) → args.length = vs.length → (∀ (i : Nat) (c : PV) (v : Value), args[i]? = some c → vs[i]? = some v → PRel w S c v) →
    Calls P f vs.toArray w fun e w' => ∃ v r, e = .returned v ∧ R r ∧ Fr (fun _ => False) w w' ∧ PRel w' S r v

theorem PCall.mono {f : FuncId} {args : List PV} {R R' : PV → Prop} (h : PCall P f args R) (hr : ∀ r, R r → R' r) : PCall P f args R' :=
  fun w S vs h1 h2 h3 => (h w S vs h1 h2 h3).mono fun e w' ⟨v, r, a, b, c, d⟩ => ⟨v, r, a, hr _ b, c, d⟩

theorem Sat.Slt {κ : Nat → Nat} {a : Act} {w : World} (hs : Sat x st κ a w) : ∀ b, x.S st κ b → b < w.heap.size := by
  rintro b (h | ⟨k, ob, h1, _, rfl⟩)
  · exact Nat.lt_of_lt_of_le (hs.s0 b h) hs.fr.size
  · obtain ⟨_, cur, e, hb, _⟩ := hs.H k ob h1
    exact getElem?_lt hb

/-- the guard lets the operation by -/
def gOk (st : St) : Option (Nat × Bool) → Prop
  | none => True
  | some (i, want) => st.get i = .p (.bool want)

theorem calls_in (hF : Free F) {n : Nat} {f : FuncId} {vs : Array Value} {w : World} {R : Ending → World → Prop} (h : Calls P f vs w R) : CallsIn F n P f vs w R := by
  rcases hF with rfl | ⟨l, rfl⟩
  · exact callsIn_wide.2 h
  · exact CallsIn.inRound l (callsIn_wide.2 h)

theorem run_call {a : Act} {w : World} {dst : Option Tmp} {ty : TypeId} {pos : String} {after : Array Edge} {guard : Option (Nat × Bool)} {f : FuncId} {args : Array Operand} {ats : Array TypeId} {l : List DOpd}
    (h : compOp P (.call { callee := .value (.func f), args := args, argTypes := ats }) = .call f l) :
    l = args.toList.map opd ∧ (execOp a.eval { dst := dst, op := .call { callee := .value (.func f), args := args, argTypes := ats }, type := ty, pos := pos, after := after, guard := guard }).run P w = .ok (.enter f (args.map a.eval)) w := by
  simp only [compOp] at h
  split at h
  · rename_i fn hfn
    split at h
    · cases h
    · rename_i hc
      simp only [Bool.or_eq_true, not_or] at hc
      cases h
      refine ⟨rfl, ?_⟩
      have h1 : (fn.name == "runtime.NumGoroutine") = false := by simpa using hc.1
      have h2 : fn.body.isNone = false := by cases hb : fn.body.isNone <;> simp_all
      have e : a.eval (.func f) = .func (.func f) #[] #[] := rfl
      simp only [execOp, resolve, Sem.run_bind, e, Deferred.ofValue, Sem.run_pure, Result.andThen_ok, invoke, callFunc, run_program, hfn, h1, h2, Bool.false_eq_true, if_false]
      simp
  · cases h

theorem pures_map_get {l : List Operand} {ps : List PV} {κ : Nat → Nat} {a : Act} {w : World} (hs : Sat x st κ a w) (h : pures ((l.map opd).map st.ev) = some ps) :
    ps.length = (l.map a.eval).length ∧ ∀ (i : Nat) (c : PV) (v : Value), ps[i]? = some c → (l.map a.eval)[i]? = some v → PRel w (x.S st κ) c v := by
  obtain ⟨h1, h2⟩ := pures_rel h (fun i c v hc hv => hs.evs l i c v hc hv)
  exact ⟨by simpa using h1, h2⟩

/-- a call of a function, its arguments pure -/
theorem oks_call (hF : Free F) {R : St → Prop} {ops : List DOper} {d : Nat} {f : FuncId} {l : List DOpd} {g : Option (Nat × Bool)} {ps : List PV} {Rc : PV → Prop}
    (hg : gOk st g) (hp : pures (l.map st.ev) = some ps) (hc : PCall P f ps Rc) (h : ∀ r, Rc r → OkOps F P nt x ops R (st.set d (.p r))) : OkOps F P nt x (⟨some d, .call f l, g⟩ :: ops) R st := by
  intro hn arr idx hi n κ a w hs K hK
  cases idx with
  | nil => simp at hi
  | cons i rest =>
    simp only [List.map_cons, List.cons.injEq, Option.map_eq_some_iff] at hi
    obtain ⟨⟨oo, hoo, hco⟩, hrest⟩ := hi
    obtain ⟨e1, hcc⟩ := compOper_op hco
    rcases hcc with ⟨hb1, hb2⟩ | ⟨e2, e3, hgg⟩
    · cases hb1
    · have hw : Region.wanted oo (yielded arr a.tmps) = true := by
        rcases hgg with ⟨g1, g2⟩ | ⟨j, b, k, g1, g2, g3, g4⟩
        · simp [Region.wanted, g1]
        · simp only at g4
          subst g4
          have hy := yielded_bool hs g2 (by rw [hn]; exact g3) hg
          simp [Region.wanted, g1, hy]
      show wpOpsIn F n P arr K (i :: rest) a w
      simp only [wpOpsIn, hoo]
      rw [if_pos hw]
      refine ⟨fun f _ => hF.fn f, ?_⟩
      have hnd := not_defer (P := P) (o := oo.op) (by rw [← e2]; simp)
      rw [semAt_eq hnd]
      obtain ⟨dst, op, ty, pos, after, guard⟩ := oo
      simp only at e1 e2 e3 hw hnd
      have hop : ∃ args ats, op = .call { callee := .value (.func f), args := args, argTypes := ats } := by
        cases op with
        | call c =>
          obtain ⟨cal, args, ats⟩ := c
          simp only [compOp] at e2
          split at e2
          all_goals first
            | (rename_i f'
               split at e2
               · split at e2
                 · cases e2
                 · simp only [DOp.call.injEq] at e2
                   rw [← e2.1] 
                   exact ⟨_, _, rfl⟩
               · cases e2)
            | (exfalso; repeat' split at e2
               all_goals cases e2)
            | cases e2
        | _ =>
          exfalso
          simp only [compOp] at e2
          repeat' split at e2
          all_goals cases e2
      obtain ⟨args, ats, rfl⟩ := hop
      obtain ⟨rfl, hrun⟩ := run_call (a := a) (w := w) (dst := dst) (ty := ty) (pos := pos) (after := after) (guard := guard) e2.symm
      rw [hrun]
      obtain ⟨hl, hrel⟩ := pures_map_get hs hp
      have hcall := hc w (x.S st κ) (args.toList.map a.eval) hs.Slt hl hrel
      have ea : args.map a.eval = (args.toList.map a.eval).toArray := by apply Array.ext'; simp
      rw [ea]
      refine ⟨fun h => (by rw [hF.depth] at h; cases h), ?_⟩
      refine CallsIn.mono (calls_in hF hcall) ?_
      rintro e w' ⟨v, r, rfl, hr, hfr, hv⟩
      have hset := (hs.world hfr).set d (by rw [hn]; exact e3 d e1.symm) (.p r) v (.p _ _ hv)
      rw [← e1]
      exact h r hr hn arr rest hrest n κ _ w' hset K hK
end

/-! ### functions -/

inductive DRes where
  | t (i : Nat)
  | c (n : Option Nat) (i : Nat)
  | bad
def compRes (P : Program) : ResultVar → DRes
  | .tmp t => .t t
  | .cell a t => match ldn P t with | some n => .c n a | none => .bad
structure DFn where
  nt : Nat
  res : List DRes
  code : DCode
def compF (P : Program) (f : FuncId) : Option DFn :=
  match P.funcs[f]? with
  | some fn => match fn.body with
    | some c => some ⟨fn.ntmps, fn.results.toList.map (compRes P), compCode P fn.ntmps c⟩
    | none => none
  | none => none

def evRes (st : St) : DRes → Option DV
  | .t i => some (st.get i)
  | .c n i => evOp st (.ld n (.t i))
  | .bad => none
def evRess (st : St) : List DRes → Option (List DV)
  | [] => some []
  | r :: rs => match evRes st r, evRess st rs with
    | some d, some ds => some (d :: ds)
    | _, _ => none
def resD (st : St) (rs : List DRes) : Option DV :=
  match evRess st rs with
  | some [d] => some d
  | some ds => some (mkTup ds)
  | none => none

/-- the state's object k, if all of it is pure -/
def St.pob (st : St) (k sz : Nat) : Option (List (List PV)) :=
  match lk st.H k with
  | some ⟨_, sz', .p rows⟩ => if sz' = sz then some rows else none
  | _ => none

-- a value seen as a pure one: a slice of the call's own, a pointer into an object
mutual
def snap0 (st : St) : DV → Option PV
  | .p v => some v
  | .own k sz s len _ => match st.pob k sz with
    | some rows => if s + len ≤ rows.length then some (.sl none sz ((rows.drop s).take len) []) else none
    | none => none
  | .ptr k sz i off => match st.pob k sz with
    | some rows => some (.pp sz rows i off)
    | none => none
  | .agg cs => match snapL0 st cs with
    | some ps => some (.agg ps)
    | none => none
  | .tup cs => match snapL0 st cs with
    | some ps => some (.tup ps)
    | none => none
  | .fn f us vs => match snapL0 st us, snapL0 st vs with
    | some ps, some qs => some (.fn f ps qs)
    | _, _ => none
  | .undef => none
def snapL0 (st : St) : List DV → Option (List PV)
  | [] => some []
  | d :: ds => match snap0 st d, snapL0 st ds with
    | some p, some r => some (p :: r)
    | _, _ => none
end
def snap (st : St) (d : DV) : Option PV := (snap0 st d).map PV.norm
def snapL (st : St) : List DV → Option (List PV)
  | [] => some []
  | d :: ds => match snap st d, snapL st ds with
    | some p, some r => some (p :: r)
    | _, _ => none

def argsT : Nat → List PV → List (Nat × DV)
  | _, [] => []
  | i, a :: r => (i, .p a) :: argsT (i + 1) r

/-- what a function's end owes -/
def retQ (res : List DRes) (R : PV → Prop) (e : Exit) (st : St) : Prop :=
  (e = .ret ∨ e = .normal) ∧ ∃ d p, resD st res = some d ∧ snap st d = some p ∧ R p

section
variable {P : Program} {w : World} {κ : Nat → Nat} {x : Fx} {st : St} {a : Act}

theorem pob_at {k sz : Nat} {rows : List (List PV)} (h : st.pob k sz = some rows) : ∃ ro, lk st.H k = some ⟨ro, sz, .p rows⟩ := by
  unfold St.pob at h
  split at h
  · rename_i ro sz' rows' hl
    split at h
    · rename_i e; subst e; cases h; exact ⟨ro, hl⟩
    · cases h
  · cases h

theorem pob_rows (hs : Sat x st κ a w) {k sz : Nat} {rows : List (List PV)} (h : st.pob k sz = some rows) : κ k < w.heap.size ∧ (∀ r, r ∈ rows → r.length = sz) ∧ ∃ f : Nat → Nat → Value,
    ∀ i j c, rowAt rows i j = some c → (w.cell? ⟨κ k, i * sz + j, none⟩ = some (f i j) ∧ (f i j).oneCell' = true) ∧ PRel w (x.S st κ) c (f i j) := by
  obtain ⟨ro, hl⟩ := pob_at h
  obtain ⟨wf, cur, e, hb, hlen, hc⟩ := hs.H k _ hl
  refine ⟨getElem?_lt hb, wf, fun i j => cur[i * sz + j]?.getD undef, fun i j c hcc => ?_⟩
  obtain ⟨v, g1, g2, g3⟩ := hc i j (.p c) (by simp [Rows.at, hcc])
  cases g3 with | p _ _ g3 =>
  simp only at g1
  refine ⟨⟨?_, (by show Value.oneCell' (cur[i * sz + j]?.getD undef) = true; rw [g1]; exact g2)⟩, (by show PRel _ _ _ (cur[i * sz + j]?.getD undef); rw [g1]; exact g3)⟩
  simp [World.cell?, hb, g1]

mutual
theorem snap0_rel (hs : Sat x st κ a w) {st0 : St} (hsub : ∀ k sz rows, st0.pob k sz = some rows → st.pob k sz = some rows) {S : Nat → Prop} (hS : ∀ b, b < w.heap.size → S b → x.S st κ b) (hK : ∀ k sz rows, st0.pob k sz = some rows → ¬ S (κ k)) : ∀ {d : DV} {v : Value} {p : PV}, DRel w (x.S st κ) κ d v → snap0 st0 d = some p → PRel w S p v
  | .p q, v, p, hd, hp => by
    simp only [snap0, Option.some.injEq] at hp
    subst hp
    cases hd with | p _ _ h =>
    exact h.mono (Keep.refl _ _) hS
  | .own k sz s len room, v, p, hd, hp => by
    simp only [snap0] at hp
    split at hp
    · rename_i rows hp'
      split at hp
      · rename_i hfit
        cases hp
        obtain ⟨hlt, hw, f, hf⟩ := pob_rows hs (hsub _ _ _ hp')
        cases hd with
        | ownnil => exact (by simpa using PRel.slnil (w := w) (S := S) none sz (by simp))
        | own _ _ _ _ _ cap o h1 h2 h3 h4 cur e fr hb hfit' =>
          have hl : ((rows.drop s).take len).length = len := by simp; omega
          have ho : len = 0 ∨ o = s * sz := by rcases h4 with h4 | h4; (left; omega); exact .inr h4
          have := PRel.sl (w := w) (S := S) none (by simp) sz ((rows.drop s).take len) [] (κ k) o cap (fun i j => f (s + i) j) (hK k sz rows hp') hlt
            (fun r hr => hw r (List.mem_of_mem_drop (List.mem_of_mem_take (by simpa using hr)))) (by rw [hl]; simp; omega) h3
            (fun i j c hc => by
              rw [List.append_nil] at hc
              have hi := (rowAt_wf (sz := sz) (fun r hr => hw r (List.mem_of_mem_drop (List.mem_of_mem_take hr))) hc).1
              rw [hl] at hi
              have ho' : o = s * sz := by rcases ho with h | h; omega; exact h
              have := (hf (s + i) j c (rowAt_drop_take _ _ _ _ _ _ hc)).1
              rw [ho', ← Nat.add_mul]
              exact this)
            (fun i j c hc => by
              rw [List.append_nil] at hc
              exact (hf (s + i) j c (rowAt_drop_take _ _ _ _ _ _ hc)).2.mono (Keep.refl _ _) hS)
          rw [hl] at this
          exact this
      · cases hp
    · cases hp
  | .ptr k sz i off, v, p, hd, hp => by
    simp only [snap0] at hp
    split at hp
    · rename_i rows hp'
      cases hp
      obtain ⟨hlt, hw, f, hf⟩ := pob_rows hs (hsub _ _ _ hp')
      cases hd
      have := PRel.pp (w := w) (S := S) sz rows i off (κ k) 0 f (hK k sz rows hp') hlt hw (fun i j c hc => by rw [Nat.zero_add]; exact (hf i j c hc).1) (fun i j c hc => (hf i j c hc).2.mono (Keep.refl _ _) hS)
      simpa using this
    · cases hp
  | .agg cs, v, p, hd, hp => by
    simp only [snap0] at hp
    split at hp
    · rename_i ps hps
      cases hp
      cases hd with | agg _ vs hl hr =>
      obtain ⟨h2, h3⟩ := snapL0_rel hs hsub hS hK hl hr hps
      exact .agg _ _ h2 h3
    · cases hp
  | .tup cs, v, p, hd, hp => by
    simp only [snap0] at hp
    split at hp
    · rename_i ps hps
      cases hp
      cases hd with | tup _ vs hl hr =>
      obtain ⟨h2, h3⟩ := snapL0_rel hs hsub hS hK hl hr hps
      exact .tup _ _ h2 h3
    · cases hp
  | .fn g us vs, v, p, hd, hp => by
    simp only [snap0] at hp
    split at hp
    · rename_i ps qs hps hqs
      cases hp
      cases hd with | fn _ _ _ us' vs' hl1 hl2 hr1 hr2 =>
      obtain ⟨h2, h3⟩ := snapL0_rel hs hsub hS hK hl1 hr1 hps
      obtain ⟨k2, k3⟩ := snapL0_rel hs hsub hS hK hl2 hr2 hqs
      exact .fn _ _ _ _ _ h2 k2 h3 k3
    · cases hp
  | .undef, v, p, hd, hp => by simp [snap0] at hp
theorem snapL0_rel (hs : Sat x st κ a w) {st0 : St} (hsub : ∀ k sz rows, st0.pob k sz = some rows → st.pob k sz = some rows) {S : Nat → Prop} (hS : ∀ b, b < w.heap.size → S b → x.S st κ b) (hK : ∀ k sz rows, st0.pob k sz = some rows → ¬ S (κ k)) : ∀ {cs : List DV} {vs : List Value} {ps : List PV}, cs.length = vs.length →
    (∀ (i : Nat) (c : DV) (v : Value), cs[i]? = some c → vs[i]? = some v → DRel w (x.S st κ) κ c v) → snapL0 st0 cs = some ps → ps.length = vs.length ∧ ∀ (i : Nat) (c : PV) (v : Value), ps[i]? = some c → vs[i]? = some v → PRel w S c v
  | [], vs, ps, hl, hr, hp => by
    simp only [snapL0, Option.some.injEq] at hp
    subst hp
    exact ⟨by simpa using hl, fun i c v hc => by simp at hc⟩
  | d :: ds, [], ps, hl, hr, hp => by cases hl
  | d :: ds, v :: vs, ps, hl, hr, hp => by
    simp only [snapL0] at hp
    split at hp
    · rename_i p r h1 h2
      cases hp
      have g1 := snap0_rel hs hsub hS hK (hr 0 d v rfl rfl) h1
      obtain ⟨k2, k3⟩ := snapL0_rel hs hsub hS hK (cs := ds) (vs := vs) (by simpa using hl) (fun i c v hc hv => hr (i + 1) c v (by simpa using hc) (by simpa using hv)) h2
      refine ⟨by simp [k2], fun i c v hc hv => ?_⟩
      cases i with
      | zero => simp at hc hv; subst hc hv; exact g1
      | succ i => exact k3 i c v (by simpa using hc) (by simpa using hv)
    · cases hp
end
theorem snap_rel (hs : Sat x st κ a w) {st0 : St} (hsub : ∀ k sz rows, st0.pob k sz = some rows → st.pob k sz = some rows) {S : Nat → Prop} (hS : ∀ b, b < w.heap.size → S b → x.S st κ b) (hK : ∀ k sz rows, st0.pob k sz = some rows → ¬ S (κ k)) {d : DV} {v : Value} {p : PV} (hd : DRel w (x.S st κ) κ d v) (h : snap st0 d = some p) : PRel w S p v := by
  unfold snap at h
  rw [Option.map_eq_some_iff] at h
  obtain ⟨q, hq, rfl⟩ := h
  exact (snap0_rel hs hsub hS hK hd hq).norm
theorem snapL_rel (hs : Sat x st κ a w) {st0 : St} (hsub : ∀ k sz rows, st0.pob k sz = some rows → st.pob k sz = some rows) {S : Nat → Prop} (hS : ∀ b, b < w.heap.size → S b → x.S st κ b) (hK : ∀ k sz rows, st0.pob k sz = some rows → ¬ S (κ k)) : ∀ {cs : List DV} {vs : List Value} {ps : List PV}, cs.length = vs.length →
    (∀ (i : Nat) (c : DV) (v : Value), cs[i]? = some c → vs[i]? = some v → DRel w (x.S st κ) κ c v) → snapL st0 cs = some ps → ps.length = vs.length ∧ ∀ (i : Nat) (c : PV) (v : Value), ps[i]? = some c → vs[i]? = some v → PRel w S c v
  | [], vs, ps, hl, hr, hp => by
    simp only [snapL, Option.some.injEq] at hp
    subst hp
    exact ⟨by simpa using hl, fun i c v hc => by simp at hc⟩
  | d :: ds, [], ps, hl, hr, hp => by cases hl
  | d :: ds, v :: vs, ps, hl, hr, hp => by
    simp only [snapL] at hp
    split at hp
    · rename_i p r h1 h2
      cases hp
      have g1 := snap_rel hs hsub hS hK (hr 0 d v rfl rfl) h1
      obtain ⟨k2, k3⟩ := snapL_rel hs hsub hS hK (cs := ds) (vs := vs) (by simpa using hl) (fun i c v hc hv => hr (i + 1) c v (by simpa using hc) (by simpa using hv)) h2
      refine ⟨by simp [k2], fun i c v hc hv => ?_⟩
      cases i with
      | zero => simp at hc hv; subst hc hv; exact g1
      | succ i => exact k3 i c v (by simpa using hc) (by simpa using hv)
    · cases hp

theorem argsT_lk : ∀ (i : Nat) (l : List PV) (j : Nat) (d : DV), lk (argsT i l) j = some d → ∃ p, l[j - i]? = some p ∧ d = .p p ∧ i ≤ j
  | i, [], j, d, h => by simp [argsT, lk] at h
  | i, p :: r, j, d, h => by
    simp only [argsT, lk_cons] at h
    split at h
    · rename_i e; subst e; cases h; exact ⟨p, by simp, rfl, Nat.le_refl _⟩
    · obtain ⟨q, h1, h2, h3⟩ := argsT_lk (i + 1) r j d h
      refine ⟨q, ?_, h2, by omega⟩
      rw [show j - i = (j - (i + 1)) + 1 by omega, List.getElem?_cons_succ]
      exact h1

theorem evRes_run (hs : Sat x st κ a w) (r : ResultVar) {d : DV} (h : evRes st (compRes P r) = some d) :
    ∃ v, (match r with | .tmp t => pure (a.tmps.getD t undef) | .cell c t => (do loadVar t (← asAddr (a.tmps.getD c undef))) : Sem Value).run P w = .ok v w ∧ DRel w (x.S st κ) κ d v := by
  cases r with
  | tmp t =>
    simp only [compRes, evRes, Option.some.injEq] at h
    subst h
    exact ⟨_, rfl, hs.get t⟩
  | cell c t =>
    simp only [compRes] at h
    split at h
    · rename_i n hn
      simp only [evRes] at h
      have h' : evOp st (.ld n (opd (.tmp c))) = some d := h
      obtain ⟨v, h1, h2⟩ := y_ld hs hn (.tmp c) h'
      refine ⟨v, ?_, h2⟩
      have hy := hs.get c
      have e : a.eval (.tmp c) = a.tmps.getD c undef := rfl
      rw [e] at h1
      have hp : ∃ ad, a.tmps.getD c undef = .pointer (some ad) := by
        simp only [evOp, St.ev] at h
        generalize a.tmps.getD c undef = u at hy
        split at h
        · rename_i he
          rw [he] at hy
          cases hy with | p _ _ hy => cases hy; exact ⟨_, rfl⟩
        · rename_i he
          rw [he] at hy
          cases hy; exact ⟨_, rfl⟩
        · cases h
      obtain ⟨ad, hp⟩ := hp
      show (do loadVar t (← asAddr (a.tmps.getD c undef)) : Sem Value).run P w = .ok v w
      rw [hp] at h1 ⊢
      simpa [Instr.loadAt, Instr.sureAddr, asAddr] using h1
    · simp [evRes] at h

theorem evRess_run (hs : Sat x st κ a w) : ∀ (l : List ResultVar) {ds : List DV}, evRess st (l.map (compRes P)) = some ds →
    ∃ vs, (l.mapM (fun r => match r with | .tmp t => pure (a.tmps.getD t undef) | .cell c t => (do loadVar t (← asAddr (a.tmps.getD c undef))) : ResultVar → Sem Value)).run P w = .ok vs w ∧ ds.length = vs.length ∧
      ∀ (i : Nat) (c : DV) (v : Value), ds[i]? = some c → vs[i]? = some v → DRel w (x.S st κ) κ c v
  | [], ds, h => by
    simp only [List.map_nil, evRess, Option.some.injEq] at h
    subst h
    exact ⟨[], rfl, rfl, fun i c v hc => by simp at hc⟩
  | r :: l, ds, h => by
    simp only [List.map_cons, evRess] at h
    split at h
    · rename_i d ds' h1 h2
      cases h
      obtain ⟨v, g1, g2⟩ := evRes_run (P := P) hs r h1
      obtain ⟨vs, k1, k2, k3⟩ := evRess_run hs l h2
      refine ⟨v :: vs, ?_, by simp [k2], fun i c u hc hu => ?_⟩
      · rw [List.mapM_cons]
        simp only [Sem.run_bind, g1, Result.andThen_ok, k1, Sem.run_pure]
      · cases i with
        | zero => simp at hc hu; subst hc hu; exact g2
        | succ i => exact k3 i c u (by simpa using hc) (by simpa using hu)
    · cases h

theorem results_run (hs : Sat x st κ a w) (fn : Func) {d : DV} (h : resD st (fn.results.toList.map (compRes P)) = some d) : ∃ v, (results fn a.tmps).run P w = .ok v w ∧ DRel w (x.S st κ) κ d v := by
  unfold resD at h
  cases hr : evRess st (fn.results.toList.map (compRes P)) with
  | none => simp [hr] at h
  | some ds =>
    obtain ⟨vs, k1, k2, k3⟩ := evRess_run (P := P) hs _ hr
    have hrun : (results fn a.tmps).run P w = .ok (if h : vs.toArray.size = 1 then vs.toArray[0] else .tuple vs.toArray) w := by
      unfold results
      rw [Array.mapM_eq_mapM_toList]
      simp only [Sem.run_bind, Sem.run_map]
      exact congrArg (fun (r : Result (List Value)) => (r.andThen fun a w' => Result.ok a.toArray w').andThen fun a w' => Sem.run P (pure (if h : a.size = 1 then a[0] else Value.tuple a)) w') k1
    rw [hrun]
    refine ⟨_, rfl, ?_⟩
    rw [hr] at h
    clear hr hrun k1
    rcases ds with _ | ⟨d0, _ | ⟨d1, r⟩⟩
    · simp only [Option.some.injEq] at h
      subst h
      have : vs = [] := List.eq_nil_of_length_eq_zero k2.symm
      subst this
      exact .p _ _ (.tup [] [] rfl (fun i c v hc => by simp at hc))
    · simp only [Option.some.injEq] at h
      subst h
      rcases vs with _ | ⟨v0, _ | ⟨v1, vr⟩⟩
      · cases k2
      · exact k3 0 _ _ rfl rfl
      · simp at k2
    · simp only [Option.some.injEq] at h
      subst h
      have hn : ¬ vs.toArray.size = 1 := by simp only [List.length_cons] at k2; rw [List.size_toArray]; omega
      rw [dif_neg hn]
      unfold mkTup
      cases hp : pures (d0 :: d1 :: r) with
      | none => exact .tup _ _ k2 k3
      | some ps =>
        obtain ⟨h1, h2⟩ := pures_rel hp k3
        exact .p _ _ (.tup ps vs (by rw [h1, k2]) h2)

/-- A function that does what is said, by its body. -/
theorem pcall_of [DGood P] {f : FuncId} {args : List PV} {R : PV → Prop} {D : DFn} (hf : compF P f = some D) (hl : args.length ≤ D.nt)
    (h : ∀ x : Fx, Ok Fence.wide P D.nt x D.code (retQ D.res R) ⟨D.nt, argsT 0 args, []⟩) : PCall P f args R := by
  intro w S vs hS hlen hrel
  unfold compF at hf
  split at hf
  · rename_i fn hfn
    split at hf
    · rename_i c hc
      cases hf
      refine (callsIn_wide (n := 0)).1 (callsIn_of_wp hfn hc trivial ?_)
      let x : Fx := ⟨S, fun _ => False, w, [], fun _ => none⟩
      have hs0 : Sat x ⟨fn.ntmps, argsT 0 args, []⟩ (fun _ => 0) { tmps := vs.toArray ++ Array.replicate (fn.ntmps - vs.toArray.size) undef, defers := [] } w := by
        refine ⟨rfl, ?_, ?_, ?_, ?_, ?_, Fr.refl _ _, hS, fun k b hk => by cases hk⟩
        · simp at hl ⊢; omega
        · intro i d hd
          obtain ⟨p, h1, rfl, _⟩ := argsT_lk 0 args i d hd
          rw [Nat.sub_zero] at h1
          have hlt : i < vs.length := by rw [← hlen]; exact (List.getElem?_eq_some_iff.1 h1).1
          have hg : (vs.toArray ++ Array.replicate (fn.ntmps - vs.toArray.size) undef).getD i undef = vs[i] := by
            simp [Array.getD, Array.getElem_append, hlt]
            omega
          rw [hg]
          refine .p _ _ ((hrel i p _ h1 (List.getElem?_eq_getElem hlt)).mono (Keep.refl _ _) ?_)
          rintro b _ (hb | ⟨k, ob, hk, _⟩)
          · exact hb
          · simp [lk] at hk
        · intro k ob hk; simp [lk] at hk
        · intro k k' ob ob' hk; simp [lk] at hk
        · intro k ob hk; simp [lk] at hk
      refine wpIn_mono (h x rfl c (DGood.body hfn hc) rfl 0 _ _ w hs0) ?_
      rintro e a' w' ⟨st', κ', ⟨he, d, r, h1, h2, h3⟩, hs', hn'⟩
      obtain ⟨v, g1, g2⟩ := results_run hs' fn h1
      have hb := snap_rel hs' (st0 := st') (fun _ _ _ h => h) (S := S) (fun b _ h => .inl h) (fun k sz rows hp hk => by
        obtain ⟨ro, hl⟩ := pob_at hp
        exact (hs'.mine k _ hl).2 hk) g2 h2
      have fin : a'.defers = [] ∧ ∃ v, (results fn a'.tmps).run P w' = .ok v w' ∧ ∃ v_1 r, Ending.returned v = Ending.returned v_1 ∧ R r ∧ Fr (fun _ => False) w w' ∧ PRel w' S r v_1 :=
        ⟨hs'.ds, v, g1, v, r, rfl, h3, hs'.fr, hb⟩
      rcases he with rfl | rfl
      · exact fin
      · exact fin
    · cases hf
  · cases hf
end

/-! ### calls with what the state holds -/

def filt (ks : List Nat) : List (Nat × Ob) → List (Nat × Ob)
  | [] => []
  | (k, ob) :: r => if ks.contains k then (k, ob) :: filt ks r else filt ks r
def St.only (st : St) (ks : List Nat) : St := { st with H := filt ks st.H }
def St.dropL (st : St) : List Nat → St
  | [] => st
  | k :: ks => (st.drop k).dropL ks

def PV.scalar : PV → Bool
  | .int _ _ => true
  | .bool _ => true
  | .str _ => true
  | .nilptr => true
  | .nilfn => true
  | .niface => true
  | _ => false

section
variable {F : Fence} {P : Program} {nt : Nat} {x : Fx} {Q : Exit → St → Prop} {st : St}

theorem lk_filt (ks : List Nat) : ∀ (H : List (Nat × Ob)) (k : Nat), lk (filt ks H) k = if ks.contains k then lk H k else none
  | [], k => by simp [filt, lk]
  | (j, ob) :: r, k => by
    simp only [filt]
    split
    · rename_i hj
      simp only [lk_cons, lk_filt ks r k]
      by_cases e : j = k
      · subst e; simp only [if_true, hj]
      · simp only [if_neg e]
    · rename_i hj
      rw [lk_filt ks r k]
      simp only [lk_cons]
      by_cases e : j = k
      · subst e; rw [if_neg hj, if_neg hj]
      · simp only [if_neg e]

theorem only_pob {ks : List Nat} {k sz : Nat} {rows : List (List PV)} (h : (st.only ks).pob k sz = some rows) : st.pob k sz = some rows ∧ k ∈ ks := by
  unfold St.pob at h ⊢
  simp only [St.only, lk_filt] at h
  by_cases hk : ks.contains k
  · rw [if_pos hk] at h
    exact ⟨h, by simpa using hk⟩
  · rw [if_neg hk] at h; cases h

theorem dropL_lk : ∀ (ks : List Nat) (st : St) {k : Nat} {ob : Ob}, lk (st.dropL ks).H k = some ob → k ∉ ks ∧ ∃ ob0, lk st.H k = some ob0 ∧ ob0.ro = ob.ro
  | [], st, k, ob, h => ⟨by simp, ob, h, rfl⟩
  | j :: ks, st, k, ob, h => by
    obtain ⟨h1, ob1, h2, h3⟩ := dropL_lk ks (st.drop j) h
    simp only [St.drop, lk_purgeH] at h2
    split at h2
    · cases h2
    · rename_i hj
      cases hl : lk st.H k with
      | none => simp [hl] at h2
      | some o =>
        simp only [hl, Option.map_some, Option.some.injEq] at h2
        exact ⟨by simp [hj, h1], o, rfl, by rw [← h3, ← h2]⟩

theorem Sat.dropL {κ : Nat → Nat} {a : Act} {w : World} : ∀ (ks : List Nat) {st : St}, Sat x st κ a w → Sat x (st.dropL ks) κ a w
  | [], st, h => h
  | k :: ks, st, h => Sat.dropL ks (h.dropOb k)
theorem dropL_nt : ∀ (ks : List Nat) (st : St), (st.dropL ks).nt = st.nt
  | [], st => rfl
  | k :: ks, st => dropL_nt ks (st.drop k)

/-- how snapshots of the keys ks relate, for whoever bars the others -/
theorem snapK_rel {κ : Nat → Nat} {a : Act} {w : World} (hs : Sat x st κ a w) {ks : List Nat} {S : Nat → Prop} (hS : ∀ b, b < w.heap.size → S b → x.S st κ b) (hK : ∀ k sz rows, st.pob k sz = some rows → k ∈ ks → ¬ S (κ k)) {cs : List DV} {vs : List Value} {ps : List PV} (hl : cs.length = vs.length)
    (hr : ∀ (i : Nat) (c : DV) (v : Value), cs[i]? = some c → vs[i]? = some v → DRel w (x.S st κ) κ c v) (hp : snapL (st.only ks) cs = some ps) : ps.length = vs.length ∧ ∀ (i : Nat) (c : PV) (v : Value), ps[i]? = some c → vs[i]? = some v → PRel w S c v :=
  snapL_rel hs (st0 := st.only ks) (fun k sz rows h => (only_pob h).1) hS (fun k sz rows h => hK k sz rows (only_pob h).1 (only_pob h).2) hl hr hp
end
end Go.Dl
set_option linter.unusedVariables false
set_option linter.unusedSimpArgs false
namespace Go.Dl

section
variable (F : Fence) (P : Program) (nt : Nat) (x : Fx)

/-- one operation's step, a choice in two -/
def stp1 (st : St) (dst : Option Nat) (o : DOp) (k : St → Prop) : Prop := match o with
  | .pick c a b => match dst, st.ev c with
    | some d, .p (.bool t) => if t = true then k (st.set d (st.ev a)) else k (st.set d (st.ev b))
    | _, _ => False
  | o => match stepD st dst o with
    | some st' => k st'
    | none => False
/-- operations up to a call -/
def VCops : List DOper → (St → Prop) → St → Prop
  | [], R, st => R st
  | o :: ops, R, st => match o.op with
    | .call _ _ => OkOps F P nt x (o :: ops) R st
    | .callv _ _ => OkOps F P nt x (o :: ops) R st
    | _ => match o.g with
      | none => stp1 st o.dst o.op (VCops ops R)
      | some (i, want) => match st.get i with
        | .p (.bool b) => if b = want then stp1 st o.dst o.op (VCops ops R) else
            match o.dst with | some d => VCops ops R (st.set d (.p (.tup []))) | none => VCops ops R st
        | .p (.tup []) => (match o.dst with | some d => VCops ops R (st.set d (.p (.tup []))) | none => VCops ops R st)
        | _ => False

def Kseq (f : St → Prop) (Q : Exit → St → Prop) (e : Exit) (s : St) : Prop := match e with | .normal => f s | e => Q e s
def Kblk (i : Nat) (Q : Exit → St → Prop) (e : Exit) (s : St) : Prop := match e with | .exit j => if j = i then Q .normal s else Q (.exit j) s | e => Q e s

/-- code up to loops and calls -/
def VC : DCode → (Exit → St → Prop) → St → Prop
  | .skip, Q, st => Q .normal st
  | .label, Q, st => Q .normal st
  | .ret, Q, st => Q .ret st
  | .exit i, Q, st => Q (.exit i) st
  | .seq a b, Q, st => VC a (Kseq (VC b Q) Q) st
  | .cond c a b, Q, st => match st.ev c with
    | .p (.bool t) => if t = true then VC a Q st else VC b Q st
    | _ => False
  | .block i b, Q, st => VC b (Kblk i Q) st
  | .scope b, Q, st => VC b (Ksc Q) st
  | .reg ops, Q, st => VCops F P nt x ops (Q .normal) st
  | c, Q, st => Ok F P nt x c Q st
end

section
variable (f : St → Prop) (Q : Exit → St → Prop) (s : St)
@[simp] theorem Kseq_normal : Kseq f Q .normal s = f s := propext Iff.rfl
@[simp] theorem Kseq_exit (i : Nat) : Kseq f Q (.exit i) s = Q (.exit i) s := propext Iff.rfl
@[simp] theorem Kseq_ret : Kseq f Q .ret s = Q .ret s := propext Iff.rfl
@[simp] theorem Kblk_normal (i : Nat) : Kblk i Q .normal s = Q .normal s := propext Iff.rfl
@[simp] theorem Kblk_exit (i j : Nat) : Kblk i Q (.exit j) s = if j = i then Q .normal s else Q (.exit j) s := propext Iff.rfl
@[simp] theorem Ksc_normal : Ksc Q .normal s = Q .normal s := propext Iff.rfl
@[simp] theorem Ksc_exit (i : Nat) : Ksc Q (.exit i) s = Q (.exit i) s := propext Iff.rfl
@[simp] theorem Ksc_ret : Ksc Q .ret s = Q .ret s := propext Iff.rfl
@[simp] theorem Kblk_ret (i : Nat) : Kblk i Q .ret s = Q .ret s := propext Iff.rfl
end

section
variable {F : Fence} {P : Program} {nt : Nat} {x : Fx}

theorem stp1_step {st : St} {dst : Option Nat} {o : DOp} {k : St → Prop} (h : stp1 st dst o k) : ∃ st', stepD st dst o = some st' ∧ k st' := by
  have main : (match stepD st dst o with | some st' => k st' | none => False) → ∃ st', stepD st dst o = some st' ∧ k st' := by
    intro h
    split at h
    · rename_i st' hs; exact ⟨st', hs, h⟩
    · exact h.elim
  cases o <;> first
    | exact main h
    | skip
  rename_i c a b
  simp only [stp1] at h
  split at h
  · rename_i d t ht
    cases t
    · exact ⟨_, by simp only [stepD, evOp, ht]; rfl, h⟩
    · exact ⟨_, by simp only [stepD, evOp, ht]; rfl, h⟩
  · exact h.elim

theorem vcops_ok (hF : Free F) : ∀ (ops : List DOper) {R : St → Prop} {st : St}, VCops F P nt x ops R st → OkOps F P nt x ops R st
  | [], R, st, h => oks_nil h
  | o :: ops, R, st, h => by
    have main : (match o.g with
      | none => stp1 st o.dst o.op (VCops F P nt x ops R)
      | some (i, want) => match st.get i with
        | .p (.bool b) => if b = want then stp1 st o.dst o.op (VCops F P nt x ops R) else
            match o.dst with | some d => VCops F P nt x ops R (st.set d (.p (.tup []))) | none => VCops F P nt x ops R st
        | .p (.tup []) => (match o.dst with | some d => VCops F P nt x ops R (st.set d (.p (.tup []))) | none => VCops F P nt x ops R st)
        | _ => False) → OkOps F P nt x (o :: ops) R st := by
      intro h
      split at h
      · rename_i hg
        obtain ⟨st', hs, hk⟩ := stp1_step h
        exact oks_step hF (by simp only [stepGd, hg]; exact hs) (vcops_ok hF ops hk)
      · rename_i i want hg
        split at h
        · rename_i b hb
          by_cases hbw : b = want
          · rw [if_pos hbw] at h
            obtain ⟨st', hs, hk⟩ := stp1_step h
            exact oks_step hF (by simp only [stepGd, hg, hb, if_pos hbw]; exact hs) (vcops_ok hF ops hk)
          · rw [if_neg hbw] at h
            have h2 := h
            split at h2
            · rename_i d hd
              exact oks_step hF (by simp only [stepGd, hg, hb, if_neg hbw, hd]) (vcops_ok hF ops h2)
            · rename_i hd
              exact oks_step hF (by simp only [stepGd, hg, hb, if_neg hbw, hd]) (vcops_ok hF ops h2)
        · rename_i hb
          split at h
          · rename_i d hd
            exact oks_step hF (by simp only [stepGd, hg, hb, hd]) (vcops_ok hF ops h)
          · rename_i hd
            exact oks_step hF (by simp only [stepGd, hg, hb, hd]) (vcops_ok hF ops h)
        · exact h.elim
    obtain ⟨dst, op, g⟩ := o
    cases op <;> first
      | exact main h
      | exact h

theorem vc_ok (hF : Free F) : ∀ (c : DCode) {Q : Exit → St → Prop} {st : St}, VC F P nt x c Q st → Ok F P nt x c Q st
  | .skip, Q, st, h => ok_skip h
  | .label, Q, st, h => ok_label h
  | .ret, Q, st, h => ok_ret h
  | .exit i, Q, st, h => ok_exit h
  | .seq a b, Q, st, h => ok_seq (ok_mono (vc_ok hF a h) fun e s hq => by
      cases e <;> first
        | exact hq
        | exact vc_ok hF b hq)
  | .cond c a b, Q, st, h => by
    simp only [VC] at h
    split at h
    · rename_i t ht
      exact ok_cond ht (fun e => vc_ok hF a (by rw [if_pos e] at h; exact h)) (fun e => vc_ok hF b (by rw [if_neg (by rw [e]; decide)] at h; exact h))
    · exact h.elim
  | .block i b, Q, st, h => ok_block (vc_ok hF b h)
  | .scope b, Q, st, h => ok_scope (vc_ok hF b h)
  | .reg ops, Q, st, h => ok_reg (vcops_ok hF ops h)
  | .draw _, Q, st, h => h
  | .loop _, Q, st, h => h
  | .range _ _ _ _, Q, st, h => h
  | .bad, Q, st, h => h
end

/-- what follows a step -/
def thn (o : Option St) (f : St → Prop) : Prop := match o with | some s => f s | none => False
@[simp] theorem thn_some (s : St) (f : St → Prop) : thn (some s) f = f s := propext Iff.rfl
def VCn (F : Fence) (P : Program) (nt : Nat) (x : Fx) (ops : List DOper) (R : St → Prop) (st : St) : Prop := VCops F P nt x ops R st
def stpo (st : St) (dst : Option Nat) (o : DOp) : Option St := stepD st dst o
def st1 (st : St) (dst : Option Nat) (o : DOp) (k : St → Prop) : Prop := match o with
  | .pick c a b => match dst, st.ev c with
    | some d, .p (.bool t) => if t = true then k (st.set d (st.ev a)) else k (st.set d (st.ev b))
    | _, _ => False
  | o => thn (stepD st dst o) k
def VCo (F : Fence) (P : Program) (nt : Nat) (x : Fx) (o : DOper) (ops : List DOper) (R : St → Prop) (st : St) : Prop := match o.op with
    | .call _ _ => OkOps F P nt x (o :: ops) R st
    | .callv _ _ => OkOps F P nt x (o :: ops) R st
    | _ => match o.g with
      | none => st1 st o.dst o.op (VCn F P nt x ops R)
      | some (i, want) => match st.get i with
        | .p (.bool b) => if b = want then st1 st o.dst o.op (VCn F P nt x ops R) else
            match o.dst with | some d => VCn F P nt x ops R (st.set d (.p (.tup []))) | none => VCn F P nt x ops R st
        | .p (.tup []) => (match o.dst with | some d => VCn F P nt x ops R (st.set d (.p (.tup []))) | none => VCn F P nt x ops R st)
        | _ => False
theorem VCops_cons (F : Fence) (P : Program) (nt : Nat) (x : Fx) (o : DOper) (ops : List DOper) (R : St → Prop) (st : St) : VCops F P nt x (o :: ops) R st = VCo F P nt x o ops R st := by
  obtain ⟨dst, op, g⟩ := o
  cases op <;> first
    | rfl
    | (simp only [VCops, VCo, VCn, thn, st1, stp1]; rfl)
@[simp] theorem VCn_nil (F : Fence) (P : Program) (nt : Nat) (x : Fx) (R : St → Prop) (st : St) : VCn F P nt x [] R st = R st := propext Iff.rfl
@[simp] theorem VCn_cons (F : Fence) (P : Program) (nt : Nat) (x : Fx) (o : DOper) (ops : List DOper) (R : St → Prop) (st : St) : VCn F P nt x (o :: ops) R st = VCo F P nt x o ops R st := VCops_cons F P nt x o ops R st

section
variable (F : Fence) (P : Program) (nt : Nat) (x : Fx) (Q : Exit → St → Prop) (R : St → Prop) (st : St)
def KS (b : DCode) (Q : Exit → St → Prop) (e : Exit) (s : St) : Prop := Kseq (VC F P nt x b Q) Q e s
@[simp] theorem KS_normal (b : DCode) (s : St) : KS F P nt x b Q .normal s = VC F P nt x b Q s := propext Iff.rfl
@[simp] theorem KS_exit (b : DCode) (s : St) (i : Nat) : KS F P nt x b Q (.exit i) s = Q (.exit i) s := propext Iff.rfl
@[simp] theorem KS_ret (b : DCode) (s : St) : KS F P nt x b Q .ret s = Q .ret s := propext Iff.rfl
@[simp] theorem VC_skip : VC F P nt x .skip Q st = Q .normal st := propext Iff.rfl
@[simp] theorem VC_label : VC F P nt x .label Q st = Q .normal st := propext Iff.rfl
@[simp] theorem VC_ret : VC F P nt x .ret Q st = Q .ret st := propext Iff.rfl
@[simp] theorem VC_exit (i : Nat) : VC F P nt x (.exit i) Q st = Q (.exit i) st := propext Iff.rfl
@[simp] theorem VC_seq (a b : DCode) : VC F P nt x (.seq a b) Q st = VC F P nt x a (KS F P nt x b Q) st := propext Iff.rfl
@[simp] theorem VC_cond (c : DOpd) (a b : DCode) : VC F P nt x (.cond c a b) Q st = match st.ev c with
    | .p (.bool t) => if t = true then VC F P nt x a Q st else VC F P nt x b Q st
    | _ => False := propext Iff.rfl
@[simp] theorem VC_block (i : Nat) (b : DCode) : VC F P nt x (.block i b) Q st = VC F P nt x b (Kblk i Q) st := propext Iff.rfl
@[simp] theorem VC_scope (b : DCode) : VC F P nt x (.scope b) Q st = VC F P nt x b (Ksc Q) st := propext Iff.rfl
@[simp] theorem VC_reg (ops : List DOper) : VC F P nt x (.reg ops) Q st = VCn F P nt x ops (Q .normal) st := propext Iff.rfl
@[simp] theorem VC_loop (b : DCode) : VC F P nt x (.loop b) Q st = Ok F P nt x (.loop b) Q st := propext Iff.rfl
@[simp] theorem VC_draw (b : List (DOper × List Nat × List Nat)) : VC F P nt x (.draw b) Q st = Ok F P nt x (.draw b) Q st := propext Iff.rfl
@[simp] theorem VC_range (f : DOpd) (ps : List Nat) (a b : DCode) : VC F P nt x (.range f ps a b) Q st = Ok F P nt x (.range f ps a b) Q st := propext Iff.rfl
@[simp] theorem retQ_ret (res : List DRes) (R : PV → Prop) : retQ res R .ret st = ∃ d p, resD st res = some d ∧ snap st d = some p ∧ R p := by simp [retQ]
@[simp] theorem retQ_normal (res : List DRes) (R : PV → Prop) : retQ res R .normal st = ∃ d p, resD st res = some d ∧ snap st d = some p ∧ R p := by simp [retQ]
end

attribute [simp] VCo st1 stepD evOp St.get St.ev St.set St.new St.upd St.drop lk purgeT purgeH DV.purge DV.refs DV.refsL Rows.purge Rows.len Rows.take Rows.drop Rows.app Rows.toM DV.cells PV.leaf DV.leaf fillRow mkAgg mkTup pures ldRow asNat cutB bndO bnd srcRows byteOf bytesOf repl chunks mapPures mkRows splice evRes evRess resD snap0 snapL0 snap snapL St.pob PV.norm PV.norm0 PV.norm1 DV.nrm0 Rows.nrm argsT gOk eqCells

@[simp low] theorem evBin_int (op : BinOp) (k k' : IntKind) (a b : Int) : evBin op (.int k a) (.int k' b) = (match op with
    | .shl => if b < 0 then none else some (.int k (k.wrap (a * 2 ^ (min b.toNat k.bits))))
    | .shr => if b < 0 then none else some (.int k (a.fdiv (2 ^ (min b.toNat k.bits))))
    | _ => if k = k' then
      match op with
      | .add => some (.int k (k.wrap (a + b)))
      | .sub => some (.int k (k.wrap (a - b)))
      | .mul => some (.int k (k.wrap (a * b)))
      | .quo => if b = 0 then none else some (.int k (k.wrap (a.tdiv b)))
      | .rem => if b = 0 then none else some (.int k (a.tmod b))
      | .and => some (.int k (k.wrap (BitVec.ofInt k.bits a &&& BitVec.ofInt k.bits b).toNat))
      | .or => some (.int k (k.wrap (BitVec.ofInt k.bits a ||| BitVec.ofInt k.bits b).toNat))
      | .xor => some (.int k (k.wrap (BitVec.ofInt k.bits a ^^^ BitVec.ofInt k.bits b).toNat))
      | .andNot => some (.int k (k.wrap (BitVec.ofInt k.bits a &&& ~~~BitVec.ofInt k.bits b).toNat))
      | .eql => some (.bool (a == b))
      | .neq => some (.bool (a != b))
      | .lss => some (.bool (a < b))
      | .leq => some (.bool (a ≤ b))
      | .gtr => some (.bool (a > b))
      | .geq => some (.bool (a ≥ b))
      | _ => none
      else none) := by cases op <;> rfl
@[simp low] theorem evBin_str (op : BinOp) (a b : List UInt8) : evBin op (.str a) (.str b) = (match op with
    | .add => if a.length + b.length ≤ 9223372036854775807 then some (.str (a ++ b)) else none
    | .eql => some (.bool (a == b))
    | .neq => some (.bool !(a == b))
    | .lss => some (.bool (Op.bytesLess a b))
    | .leq => some (.bool (Op.bytesLess a b || a == b))
    | .gtr => some (.bool !(Op.bytesLess a b || a == b))
    | .geq => some (.bool !(Op.bytesLess a b))
    | _ => none) := by cases op <;> rfl

@[simp low] theorem ite_split {p : Prop} [Decidable p] {A B : Prop} : (if p then A else B) = ((p → A) ∧ (¬ p → B)) := by
  by_cases h : p <;> simp [h]

/-- a function's contract by what is owed for its body -/
theorem pcall_vc {P : Program} [DGood P] {f : FuncId} {args : List PV} {R : PV → Prop} (D : { d : DFn // compF P f = some d }) (hl : args.length ≤ D.1.nt)
    (h : ∀ (x : Fx) (K : PV → Prop), (∀ r, R r → K r) → VC Fence.wide P D.1.nt x D.1.code (retQ D.1.res K) ⟨D.1.nt, argsT 0 args, []⟩) : PCall P f args R :=
  pcall_of D.2 hl fun x => vc_ok .wide _ (h x R fun _ h => h)

theorem vc_loop {F : Fence} {P : Program} {nt : Nat} {x : Fx} (hF : Free F) {Q : Exit → St → Prop} {st : St} {α : Type} {d : DCode} (I : α → St) (J : α → Prop) (μ : α → Nat) (y : α) (hJ : J y) (h0 : st.Sub (I y))
    (h : ∀ y, J y → ∀ K : Exit → St → Prop, (∀ s z, J z → μ z < μ y → s.Sub (I z) → K .normal s) → (∀ e s, e ≠ .normal → Q e s → K e s) → VC F P nt x d K (I y)) : Ok F P nt x (.loop d) Q st :=
  ok_loop I J μ y hJ h0 fun y hy => vc_ok hF _ (h y hy _ (fun s z h1 h2 h3 => ⟨z, h1, h2, h3⟩) (fun e s he hq => by cases e <;> first | exact hq | exact (he rfl).elim))

@[simp] def subL {α : Type} (T : List (Nat × α)) : List (Nat × α) → Prop
  | [] => True
  | (i, d) :: r => lk T i = some d ∧ subL T r
theorem subL_lk {α : Type} {T : List (Nat × α)} : ∀ {T' : List (Nat × α)}, subL T T' → ∀ i d, lk T' i = some d → lk T i = some d
  | [], _, i, d, h => by simp [lk] at h
  | (j, e) :: r, hs, i, d, h => by
    simp only [subL] at hs
    simp only [lk_cons] at h
    split at h
    · rename_i hj; subst hj; cases h; exact hs.1
    · exact subL_lk hs.2 i d h
theorem sub_of {st st' : St} (hn : st'.nt = st.nt) (hT : subL st.T st'.T) (hH : subL st.H st'.H) : st.Sub st' :=
  ⟨hn, fun i d h => .inl (subL_lk hT i d h), subL_lk hH⟩
theorem sub_iff {nt : Nat} {T T' : List (Nat × DV)} {H H' : List (Nat × Ob)} (h : subL T T' ∧ subL H H') : St.Sub ⟨nt, T, H⟩ ⟨nt, T', H'⟩ := sub_of rfl h.1 h.2
end Go.Dl
