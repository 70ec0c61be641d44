/- What is owed for code, reckoned by simp; calls and loops stay. -/
import Derived.Test.YtjmhdfcmghmgjaaDoorDlJ
set_option linter.unusedVariables false
set_option linter.unusedSimpArgs false
namespace Go.Dl

section
variable (F : Fence) (P : Program) (nt : Nat) (x : Fx)

/-- one operation's step, a choice in two -/
def stp1 (st : St) (dst : Option Nat) (o : DOp) (k : St → Prop) : Prop := match o with
  | .pick c a b => match dst, st.ev c with
    | some d, .p (.bool t) => if t = true then k (st.set d (st.ev a)) else k (st.set d (st.ev b))
    | _, _ => False
  | o => match stepD st dst o with
    | some st' => k st'
    | none => False
/-- operations up to a call -/
def VCops : List DOper → (St → Prop) → St → Prop
  | [], R, st => R st
  | o :: ops, R, st => match o.op with
    | .call _ _ => OkOps F P nt x (o :: ops) R st
    | .callv _ _ => OkOps F P nt x (o :: ops) R st
    | _ => match o.g with
      | none => stp1 st o.dst o.op (VCops ops R)
      | some (i, want) => match st.get i with
        | .p (.bool b) => if b = want then stp1 st o.dst o.op (VCops ops R) else
            match o.dst with | some d => VCops ops R (st.set d (.p (.tup []))) | none => VCops ops R st
        | .p (.tup []) => (match o.dst with | some d => VCops ops R (st.set d (.p (.tup []))) | none => VCops ops R st)
        | _ => False

def Kseq (f : St → Prop) (Q : Exit → St → Prop) (e : Exit) (s : St) : Prop := match e with | .normal => f s | e => Q e s
def Kblk (i : Nat) (Q : Exit → St → Prop) (e : Exit) (s : St) : Prop := match e with | .exit j => if j = i then Q .normal s else Q (.exit j) s | e => Q e s

/-- code up to loops and calls -/
def VC : DCode → (Exit → St → Prop) → St → Prop
  | .skip, Q, st => Q .normal st
  | .label, Q, st => Q .normal st
  | .ret, Q, st => Q .ret st
  | .exit i, Q, st => Q (.exit i) st
  | .seq a b, Q, st => VC a (Kseq (VC b Q) Q) st
  | .cond c a b, Q, st => match st.ev c with
    | .p (.bool t) => if t = true then VC a Q st else VC b Q st
    | _ => False
  | .block i b, Q, st => VC b (Kblk i Q) st
  | .scope b, Q, st => VC b (Ksc Q) st
  | .reg ops, Q, st => VCops F P nt x ops (Q .normal) st
  | c, Q, st => Ok F P nt x c Q st
end

section
variable (f : St → Prop) (Q : Exit → St → Prop) (s : St)
@[simp] theorem Kseq_normal : Kseq f Q .normal s = f s := propext Iff.rfl
@[simp] theorem Kseq_exit (i : Nat) : Kseq f Q (.exit i) s = Q (.exit i) s := propext Iff.rfl
@[simp] theorem Kseq_ret : Kseq f Q .ret s = Q .ret s := propext Iff.rfl
@[simp] theorem Kblk_normal (i : Nat) : Kblk i Q .normal s = Q .normal s := propext Iff.rfl
@[simp] theorem Kblk_exit (i j : Nat) : Kblk i Q (.exit j) s = if j = i then Q .normal s else Q (.exit j) s := propext Iff.rfl
@[simp] theorem Ksc_normal : Ksc Q .normal s = Q .normal s := propext Iff.rfl
@[simp] theorem Ksc_exit (i : Nat) : Ksc Q (.exit i) s = Q (.exit i) s := propext Iff.rfl
@[simp] theorem Ksc_ret : Ksc Q .ret s = Q .ret s := propext Iff.rfl
@[simp] theorem Kblk_ret (i : Nat) : Kblk i Q .ret s = Q .ret s := propext Iff.rfl
end

section
variable {F : Fence} {P : Program} {nt : Nat} {x : Fx}

theorem stp1_step {st : St} {dst : Option Nat} {o : DOp} {k : St → Prop} (h : stp1 st dst o k) : ∃ st', stepD st dst o = some st' ∧ k st' := by
  have main : (match stepD st dst o with | some st' => k st' | none => False) → ∃ st', stepD st dst o = some st' ∧ k st' := by
    intro h
    split at h
    · rename_i st' hs; exact ⟨st', hs, h⟩
    · exact h.elim
  cases o <;> first
    | exact main h
    | skip
  rename_i c a b
  simp only [stp1] at h
  split at h
  · rename_i d t ht
    cases t
    · exact ⟨_, by simp only [stepD, evOp, ht]; rfl, h⟩
    · exact ⟨_, by simp only [stepD, evOp, ht]; rfl, h⟩
  · exact h.elim

theorem vcops_ok (hF : Free F) : ∀ (ops : List DOper) {R : St → Prop} {st : St}, VCops F P nt x ops R st → OkOps F P nt x ops R st
  | [], R, st, h => oks_nil h
  | o :: ops, R, st, h => by
    have main : (match o.g with
      | none => stp1 st o.dst o.op (VCops F P nt x ops R)
      | some (i, want) => match st.get i with
        | .p (.bool b) => if b = want then stp1 st o.dst o.op (VCops F P nt x ops R) else
            match o.dst with | some d => VCops F P nt x ops R (st.set d (.p (.tup []))) | none => VCops F P nt x ops R st
        | .p (.tup []) => (match o.dst with | some d => VCops F P nt x ops R (st.set d (.p (.tup []))) | none => VCops F P nt x ops R st)
        | _ => False) → OkOps F P nt x (o :: ops) R st := by
      intro h
      split at h
      · rename_i hg
        obtain ⟨st', hs, hk⟩ := stp1_step h
        exact oks_step hF (by simp only [stepGd, hg]; exact hs) (vcops_ok hF ops hk)
      · rename_i i want hg
        split at h
        · rename_i b hb
          by_cases hbw : b = want
          · rw [if_pos hbw] at h
            obtain ⟨st', hs, hk⟩ := stp1_step h
            exact oks_step hF (by simp only [stepGd, hg, hb, if_pos hbw]; exact hs) (vcops_ok hF ops hk)
          · rw [if_neg hbw] at h
            have h2 := h
            split at h2
            · rename_i d hd
              exact oks_step hF (by simp only [stepGd, hg, hb, if_neg hbw, hd]) (vcops_ok hF ops h2)
            · rename_i hd
              exact oks_step hF (by simp only [stepGd, hg, hb, if_neg hbw, hd]) (vcops_ok hF ops h2)
        · rename_i hb
          split at h
          · rename_i d hd
            exact oks_step hF (by simp only [stepGd, hg, hb, hd]) (vcops_ok hF ops h)
          · rename_i hd
            exact oks_step hF (by simp only [stepGd, hg, hb, hd]) (vcops_ok hF ops h)
        · exact h.elim
    obtain ⟨dst, op, g⟩ := o
    cases op <;> first
      | exact main h
      | exact h

theorem vc_ok (hF : Free F) : ∀ (c : DCode) {Q : Exit → St → Prop} {st : St}, VC F P nt x c Q st → Ok F P nt x c Q st
  | .skip, Q, st, h => ok_skip h
  | .label, Q, st, h => ok_label h
  | .ret, Q, st, h => ok_ret h
  | .exit i, Q, st, h => ok_exit h
  | .seq a b, Q, st, h => ok_seq (ok_mono (vc_ok hF a h) fun e s hq => by
      cases e <;> first
        | exact hq
        | exact vc_ok hF b hq)
  | .cond c a b, Q, st, h => by
    simp only [VC] at h
    split at h
    · rename_i t ht
      exact ok_cond ht (fun e => vc_ok hF a (by rw [if_pos e] at h; exact h)) (fun e => vc_ok hF b (by rw [if_neg (by rw [e]; decide)] at h; exact h))
    · exact h.elim
  | .block i b, Q, st, h => ok_block (vc_ok hF b h)
  | .scope b, Q, st, h => ok_scope (vc_ok hF b h)
  | .reg ops, Q, st, h => ok_reg (vcops_ok hF ops h)
  | .draw _, Q, st, h => h
  | .loop _, Q, st, h => h
  | .range _ _ _ _, Q, st, h => h
  | .bad, Q, st, h => h
end

/-- what follows a step -/
def thn (o : Option St) (f : St → Prop) : Prop := match o with | some s => f s | none => False
@[simp] theorem thn_some (s : St) (f : St → Prop) : thn (some s) f = f s := propext Iff.rfl
def VCn (F : Fence) (P : Program) (nt : Nat) (x : Fx) (ops : List DOper) (R : St → Prop) (st : St) : Prop := VCops F P nt x ops R st
def stpo (st : St) (dst : Option Nat) (o : DOp) : Option St := stepD st dst o
def st1 (st : St) (dst : Option Nat) (o : DOp) (k : St → Prop) : Prop := match o with
  | .pick c a b => match dst, st.ev c with
    | some d, .p (.bool t) => if t = true then k (st.set d (st.ev a)) else k (st.set d (st.ev b))
    | _, _ => False
  | o => thn (stepD st dst o) k
def VCo (F : Fence) (P : Program) (nt : Nat) (x : Fx) (o : DOper) (ops : List DOper) (R : St → Prop) (st : St) : Prop := match o.op with
    | .call _ _ => OkOps F P nt x (o :: ops) R st
    | .callv _ _ => OkOps F P nt x (o :: ops) R st
    | _ => match o.g with
      | none => st1 st o.dst o.op (VCn F P nt x ops R)
      | some (i, want) => match st.get i with
        | .p (.bool b) => if b = want then st1 st o.dst o.op (VCn F P nt x ops R) else
            match o.dst with | some d => VCn F P nt x ops R (st.set d (.p (.tup []))) | none => VCn F P nt x ops R st
        | .p (.tup []) => (match o.dst with | some d => VCn F P nt x ops R (st.set d (.p (.tup []))) | none => VCn F P nt x ops R st)
        | _ => False
theorem VCops_cons (F : Fence) (P : Program) (nt : Nat) (x : Fx) (o : DOper) (ops : List DOper) (R : St → Prop) (st : St) : VCops F P nt x (o :: ops) R st = VCo F P nt x o ops R st := by
  obtain ⟨dst, op, g⟩ := o
  cases op <;> first
    | rfl
    | (simp only [VCops, VCo, VCn, thn, st1, stp1]; rfl)
@[simp] theorem VCn_nil (F : Fence) (P : Program) (nt : Nat) (x : Fx) (R : St → Prop) (st : St) : VCn F P nt x [] R st = R st := propext Iff.rfl
@[simp] theorem VCn_cons (F : Fence) (P : Program) (nt : Nat) (x : Fx) (o : DOper) (ops : List DOper) (R : St → Prop) (st : St) : VCn F P nt x (o :: ops) R st = VCo F P nt x o ops R st := VCops_cons F P nt x o ops R st

section
variable (F : Fence) (P : Program) (nt : Nat) (x : Fx) (Q : Exit → St → Prop) (R : St → Prop) (st : St)
def KS (b : DCode) (Q : Exit → St → Prop) (e : Exit) (s : St) : Prop := Kseq (VC F P nt x b Q) Q e s
@[simp] theorem KS_normal (b : DCode) (s : St) : KS F P nt x b Q .normal s = VC F P nt x b Q s := propext Iff.rfl
@[simp] theorem KS_exit (b : DCode) (s : St) (i : Nat) : KS F P nt x b Q (.exit i) s = Q (.exit i) s := propext Iff.rfl
@[simp] theorem KS_ret (b : DCode) (s : St) : KS F P nt x b Q .ret s = Q .ret s := propext Iff.rfl
@[simp] theorem VC_skip : VC F P nt x .skip Q st = Q .normal st := propext Iff.rfl
@[simp] theorem VC_label : VC F P nt x .label Q st = Q .normal st := propext Iff.rfl
@[simp] theorem VC_ret : VC F P nt x .ret Q st = Q .ret st := propext Iff.rfl
@[simp] theorem VC_exit (i : Nat) : VC F P nt x (.exit i) Q st = Q (.exit i) st := propext Iff.rfl
@[simp] theorem VC_seq (a b : DCode) : VC F P nt x (.seq a b) Q st = VC F P nt x a (KS F P nt x b Q) st := propext Iff.rfl
@[simp] theorem VC_cond (c : DOpd) (a b : DCode) : VC F P nt x (.cond c a b) Q st = match st.ev c with
    | .p (.bool t) => if t = true then VC F P nt x a Q st else VC F P nt x b Q st
    | _ => False := propext Iff.rfl
@[simp] theorem VC_block (i : Nat) (b : DCode) : VC F P nt x (.block i b) Q st = VC F P nt x b (Kblk i Q) st := propext Iff.rfl
@[simp] theorem VC_scope (b : DCode) : VC F P nt x (.scope b) Q st = VC F P nt x b (Ksc Q) st := propext Iff.rfl
@[simp] theorem VC_reg (ops : List DOper) : VC F P nt x (.reg ops) Q st = VCn F P nt x ops (Q .normal) st := propext Iff.rfl
@[simp] theorem VC_loop (b : DCode) : VC F P nt x (.loop b) Q st = Ok F P nt x (.loop b) Q st := propext Iff.rfl
@[simp] theorem VC_draw (b : List (DOper × List Nat × List Nat)) : VC F P nt x (.draw b) Q st = Ok F P nt x (.draw b) Q st := propext Iff.rfl
@[simp] theorem VC_range (f : DOpd) (ps : List Nat) (a b : DCode) : VC F P nt x (.range f ps a b) Q st = Ok F P nt x (.range f ps a b) Q st := propext Iff.rfl
@[simp] theorem retQ_ret (res : List DRes) (R : PV → Prop) : retQ res R .ret st = ∃ d p, resD st res = some d ∧ snap st d = some p ∧ R p := by simp [retQ]
@[simp] theorem retQ_normal (res : List DRes) (R : PV → Prop) : retQ res R .normal st = ∃ d p, resD st res = some d ∧ snap st d = some p ∧ R p := by simp [retQ]
end

attribute [simp] VCo st1 stepD evOp St.get St.ev St.set St.new St.upd St.drop lk purgeT purgeH DV.purge DV.refs DV.refsL Rows.purge Rows.len Rows.take Rows.drop Rows.app Rows.toM DV.cells PV.leaf DV.leaf fillRow mkAgg mkTup pures ldRow asNat cutB bndO bnd srcRows byteOf bytesOf repl chunks mapPures mkRows splice evRes evRess resD snap0 snapL0 snap snapL St.pob PV.norm PV.norm0 PV.norm1 DV.nrm0 Rows.nrm argsT gOk eqCells

@[simp low] theorem evBin_int (op : BinOp) (k k' : IntKind) (a b : Int) : evBin op (.int k a) (.int k' b) = (match op with
    | .shl => if b < 0 then none else some (.int k (k.wrap (a * 2 ^ (min b.toNat k.bits))))
    | .shr => if b < 0 then none else some (.int k (a.fdiv (2 ^ (min b.toNat k.bits))))
    | _ => if k = k' then
      match op with
      | .add => some (.int k (k.wrap (a + b)))
      | .sub => some (.int k (k.wrap (a - b)))
      | .mul => some (.int k (k.wrap (a * b)))
      | .quo => if b = 0 then none else some (.int k (k.wrap (a.tdiv b)))
      | .rem => if b = 0 then none else some (.int k (a.tmod b))
      | .and => some (.int k (k.wrap (BitVec.ofInt k.bits a &&& BitVec.ofInt k.bits b).toNat))
      | .or => some (.int k (k.wrap (BitVec.ofInt k.bits a ||| BitVec.ofInt k.bits b).toNat))
      | .xor => some (.int k (k.wrap (BitVec.ofInt k.bits a ^^^ BitVec.ofInt k.bits b).toNat))
      | .andNot => some (.int k (k.wrap (BitVec.ofInt k.bits a &&& ~~~BitVec.ofInt k.bits b).toNat))
      | .eql => some (.bool (a == b))
      | .neq => some (.bool (a != b))
      | .lss => some (.bool (a < b))
      | .leq => some (.bool (a ≤ b))
      | .gtr => some (.bool (a > b))
      | .geq => some (.bool (a ≥ b))
      | _ => none
      else none) := by cases op <;> rfl
@[simp low] theorem evBin_str (op : BinOp) (a b : List UInt8) : evBin op (.str a) (.str b) = (match op with
    | .add => if a.length + b.length ≤ 9223372036854775807 then some (.str (a ++ b)) else none
    | .eql => some (.bool (a == b))
    | .neq => some (.bool !(a == b))
    | .lss => some (.bool (Op.bytesLess a b))
    | .leq => some (.bool (Op.bytesLess a b || a == b))
    | .gtr => some (.bool !(Op.bytesLess a b || a == b))
    | .geq => some (.bool !(Op.bytesLess a b))
    | _ => none) := by cases op <;> rfl

@[simp low] theorem ite_split {p : Prop} [Decidable p] {A B : Prop} : (if p then A else B) = ((p → A) ∧ (¬ p → B)) := by
  by_cases h : p <;> simp [h]

/-- a function's contract by what is owed for its body -/
theorem pcall_vc {P : Program} [DGood P] {f : FuncId} {args : List PV} {R : PV → Prop} (D : { d : DFn // compF P f = some d }) (hl : args.length ≤ D.1.nt)
    (h : ∀ (x : Fx) (K : PV → Prop), (∀ r, R r → K r) → VC Fence.wide P D.1.nt x D.1.code (retQ D.1.res K) ⟨D.1.nt, argsT 0 args, []⟩) : PCall P f args R :=
  pcall_of D.2 hl fun x => vc_ok .wide _ (h x R fun _ h => h)

theorem vc_loop {F : Fence} {P : Program} {nt : Nat} {x : Fx} (hF : Free F) {Q : Exit → St → Prop} {st : St} {α : Type} {d : DCode} (I : α → St) (J : α → Prop) (μ : α → Nat) (y : α) (hJ : J y) (h0 : st.Sub (I y))
    (h : ∀ y, J y → ∀ K : Exit → St → Prop, (∀ s z, J z → μ z < μ y → s.Sub (I z) → K .normal s) → (∀ e s, e ≠ .normal → Q e s → K e s) → VC F P nt x d K (I y)) : Ok F P nt x (.loop d) Q st :=
  ok_loop I J μ y hJ h0 fun y hy => vc_ok hF _ (h y hy _ (fun s z h1 h2 h3 => ⟨z, h1, h2, h3⟩) (fun e s he hq => by cases e <;> first | exact hq | exact (he rfl).elim))

@[simp] def subL {α : Type} (T : List (Nat × α)) : List (Nat × α) → Prop
  | [] => True
  | (i, d) :: r => lk T i = some d ∧ subL T r
theorem subL_lk {α : Type} {T : List (Nat × α)} : ∀ {T' : List (Nat × α)}, subL T T' → ∀ i d, lk T' i = some d → lk T i = some d
  | [], _, i, d, h => by simp [lk] at h
  | (j, e) :: r, hs, i, d, h => by
    simp only [subL] at hs
    simp only [lk_cons] at h
    split at h
    · rename_i hj; subst hj; cases h; exact hs.1
    · exact subL_lk hs.2 i d h
theorem sub_of {st st' : St} (hn : st'.nt = st.nt) (hT : subL st.T st'.T) (hH : subL st.H st'.H) : st.Sub st' :=
  ⟨hn, fun i d h => .inl (subL_lk hT i d h), subL_lk hH⟩
theorem sub_iff {nt : Nat} {T T' : List (Nat × DV)} {H H' : List (Nat × Ob)} (h : subL T T' ∧ subL H H') : St.Sub ⟨nt, T, H⟩ ⟨nt, T', H'⟩ := sub_of rfl h.1 h.2
end Go.Dl
