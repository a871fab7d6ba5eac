/- The judgements on code, and the rules that hang on no operation. -/
import Derived.Test.YtflopnlnogjaoaaV1
set_option linter.unusedVariables false
set_option linter.unusedSimpArgs false
namespace Go.V
open Go Go.RowKit

inductive AExit where
  | normal | ret | exit (id : Nat) | goto (l : Nat) | panic (v : AV)
abbrev AQ := AExit → F → M → Prop
def lift (B : Base) (n : Nat) (Q : AQ) : Exit → Act → World → Prop
  | .normal, a, w => ∃ E f m, SatF B E n f m a w ∧ Q .normal f m
  | .ret, a, w => ∃ E f m, SatF B E n f m a w ∧ Q .ret f m
  | .exit id, a, w => ∃ E f m, SatF B E n f m a w ∧ Q (.exit id) f m
  | .goto l, a, w => ∃ E f m, SatF B E n f m a w ∧ Q (.goto l) f m
  | .panic chain, a, w => ∃ E f m v u, chain = [{ v := u, recovered := false }] ∧ Rep E v u ∧ SatF B E n f m a w ∧ Q (.panic v) f m
  | .outgrown, _, _ => False
theorem lift_mono {B : Base} {n : Nat} {Q Q' : AQ} (h : ∀ e f m, Q e f m → Q' e f m) (e : Exit) (a : Act) (w : World) (hq : lift B n Q e a w) : lift B n Q' e a w := by
  cases e with
  | normal => obtain ⟨E, f, m, h1, h2⟩ := hq; exact ⟨E, f, m, h1, h _ _ _ h2⟩
  | ret => obtain ⟨E, f, m, h1, h2⟩ := hq; exact ⟨E, f, m, h1, h _ _ _ h2⟩
  | exit => obtain ⟨E, f, m, h1, h2⟩ := hq; exact ⟨E, f, m, h1, h _ _ _ h2⟩
  | goto => obtain ⟨E, f, m, h1, h2⟩ := hq; exact ⟨E, f, m, h1, h _ _ _ h2⟩
  | panic c => obtain ⟨E, f, m, v, u, h1, h2, h3, h4⟩ := hq; exact ⟨E, f, m, v, u, h1, h2, h3, h _ _ _ h4⟩
  | outgrown => exact hq

def AW (P : Program) (n : Nat) (c : Code) (Q : AQ) (f : F) (m : M) : Prop := ∀ B E w a, SatF B E n f m a w → c.wp P (lift B n Q) a w
def AL (P : Program) (n : Nat) (ops : Array Oper) (Q : AQ) (rest : List Oper) (f : F) (m : M) : Prop := ∀ B E w a, SatF B E n f m a w → wpList P ops (lift B n Q) rest a w

def thenQ (K : F → M → Prop) (Q : AQ) : AQ
  | .normal, f, m => K f m
  | e, f, m => Q e f m
def blockQ (id : Nat) (Q : AQ) : AQ
  | .exit i, f, m => if i = id then Q .normal f m else Q (.exit i) f m
  | e, f, m => Q e f m

variable {P : Program} {n : Nat} {f : F} {m : M} {Q : AQ} {ops : Array Oper} {rest : List Oper}

theorem AW.mono {c : Code} {Q' : AQ} (hq : ∀ e f m, Q e f m → Q' e f m) (h : AW P n c Q f m) : AW P n c Q' f m :=
  fun B E w a hs => Code.wp_mono (fun e a w q => lift_mono hq e a w q) (h B E w a hs)

theorem AW.seq {x y : Code} (h : ∀ K : F → M → Prop, (∀ f m, AW P n y Q f m → K f m) → AW P n x (thenQ K Q) f m) : AW P n (.seq x y) Q f m := by
  intro B E w a hs
  refine wp_seq (Code.wp_mono (fun e a w q => ?_) (h _ (fun _ _ h => h) B E w a hs))
  cases e with
  | normal => obtain ⟨E, f, m, h1, h2⟩ := q; exact h2 B E w a h1
  | ret => exact q
  | exit => exact q
  | goto => exact q
  | panic c => exact q
  | outgrown => exact q
theorem AW.block {id : Nat} {c : Code} (h : AW P n c (blockQ id Q) f m) : AW P n (.block id c) Q f m := by
  intro B E w a hs
  refine wp_block (Code.wp_mono (fun e a w q => ?_) (h B E w a hs))
  cases e with
  | normal => exact q
  | ret => exact q
  | exit i =>
    obtain ⟨E, f, m, h1, h2⟩ := q
    simp only [blockQ] at h2
    simp only [Exit.inBlock]
    split at h2
    · rename_i hi; rw [if_pos hi]; exact ⟨E, f, m, h1, h2⟩
    · rename_i hi; rw [if_neg hi]; exact ⟨E, f, m, h1, h2⟩
  | goto => exact q
  | panic c => exact q
  | outgrown => exact q
theorem AW.skip (h : Q .normal f m) : AW P n .skip Q f m := fun B E w a hs => wp_skip ⟨E, f, m, hs, h⟩
theorem AW.label {l : Nat} (h : Q .normal f m) : AW P n (.label l) Q f m := fun B E w a hs => wp_label ⟨E, f, m, hs, h⟩
theorem AW.ret (h : Q .ret f m) : AW P n .ret Q f m := fun B E w a hs => wp_ret ⟨E, f, m, hs, h⟩
theorem AW.exit {id : Nat} (h : Q (.exit id) f m) : AW P n (.exit id) Q f m := fun B E w a hs => wp_exit ⟨E, f, m, hs, h⟩

def oIn (n : Nat) : Operand → Bool
  | .tmp t => t < n
  | _ => true
theorem oIn_spec {n : Nat} {x : Operand} (h : oIn n x = true) : ∀ t, x = .tmp t → t < n := fun t ht => by subst ht; simpa [oIn] using h
theorem evF_rep {B : Base} {E : Env} {a : Act} {w : World} (hs : SatF B E n f m a w) (x : Operand) (hx : ∀ t, x = .tmp t → t < n) : Rep E (evF f x) (a.eval x) := by
  cases x with
  | tmp t => exact hs.2.2.2 t (hx t rfl)
  | const v =>
    show Rep E (ofConst v) v
    unfold ofConst
    split
    · exact .bool _
    · exact .int _ _
    · rename_i s; exact .str s.data.toList
    · exact .nilptr
    · exact .nilsl
    · exact .nilmap
    · exact .nilfn
    · exact .nilif
    · exact .junk _
  | global g => exact .junk _
  | func k => exact .fn _ _ _ _ _ rfl rfl (fun i h => by cases h) (fun i h => by cases h)

theorem AW.cond {c : Operand} {x y : Code} {b : Bool} (hc : evF f c = .bool b) (hn : oIn n c = true) (h1 : b = true → AW P n x Q f m) (h2 : b = false → AW P n y Q f m) : AW P n (.cond c x y) Q f m := by
  intro B E w a hs
  have hr := evF_rep hs c (oIn_spec hn)
  rw [hc] at hr
  generalize hv : a.eval c = v at hr
  cases hr
  exact wp_cond hv (by cases b with | true => exact h1 rfl B E w a hs | false => exact h2 rfl B E w a hs)

/-- A loop, by a relation with a measure of its own. -/
theorem AW.loop {c : Code} (I : Nat → F → M → Prop) (k0 : Nat) (h0 : I k0 f m) (round : ∀ k f m, I k f m → AW P n c (thenQ (fun f' m' => ∃ k', k' < k ∧ I k' f' m') Q) f m) : AW P n (.loop c) Q f m := by
  intro B E w a hs b kk cs
  have key : ∀ k, ∀ f m, I k f m → ∀ E w a, SatF B E n f m a w →
      ∃ e a' w', lift B n Q e a' w' ∧ Arrives P (lone (b.at a (.code c :: .inLoop c :: kk)) cs w) b kk cs e a' w' := by
    intro k
    induction k using Nat.strongRecOn with
    | _ k ih =>
      intro f m hI E w a hs
      obtain ⟨e, a₁, w₁, hq, harr⟩ := round k f m hI B E w a hs b (.inLoop c :: kk) cs
      cases e with
      | normal =>
        obtain ⟨E1, f1, m1, hs1, k1, hlt, hI1⟩ := hq
        obtain ⟨e₂, a₂, w₂, hq₂, harr₂⟩ := ih k1 hlt f1 m1 hI1 E1 w₁ a₁ hs1
        exact ⟨e₂, a₂, w₂, hq₂, .of_steps (Steps.trans harr (.one step_inLoop)) harr₂⟩
      | exit id => exact ⟨.exit id, a₁, w₁, hq, .pass (x := .inLoop c) rfl (fun _ _ => .inl (by simp)) harr⟩
      | goto l => exact ⟨.goto l, a₁, w₁, hq, .pass (x := .inLoop c) rfl (fun _ _ => .inl (by simp)) harr⟩
      | ret => exact ⟨.ret, a₁, w₁, hq, .pass (x := .inLoop c) rfl (fun _ _ => .inl (by simp)) harr⟩
      | panic ch => exact ⟨.panic ch, a₁, w₁, hq, .pass (x := .inLoop c) rfl (fun _ _ => .inl (by simp)) harr⟩
      | outgrown => exact hq.elim
  obtain ⟨e, a', w', hq, harr⟩ := key k0 f m h0 E w a hs
  exact ⟨e, a', w', hq, .of_steps (.one step_loop) harr⟩

theorem AW.region {id : Nat} {l : List Oper} (h : AL P n l.toArray Q l f m) : AW P n (.region id l.toArray false) Q f m :=
  fun B E w a hs => wp_region_lit (h B E w a hs)
theorem AL.nil (h : Q .normal f m) : AL P n ops Q [] f m := fun B E w a hs => wpList_nil ⟨E, f, m, hs, h⟩

/-! ## Operations -/
/-- An operation that yields a value, and reads at most. It sees its operands alone. -/
def AOp (P : Program) (m : M) (op : Op) (ty : TypeId) (ev : Operand → AV) (v : AV) : Prop :=
  ∀ B E w (ρ : Operand → Value) (o : Oper), Sat B E m w → o.op = op → o.type = ty → (∀ x, x ∈ op.operands → Rep E (ev x) (ρ x)) → ∃ x, (execOp ρ o).run P w = .ok (.value x) w ∧ Rep E v x

theorem updO_rep {B : Base} {E : Env} {a : Act} {w : World} (hs : SatF B E n f m a w) {d : Option Nat} {v : AV} {x : Value} (hr : Rep E v x) : SatF B E n (updO f d v) m (a.put d x) w := by
  obtain ⟨h1, h2, h3, h4⟩ := hs
  cases d with
  | none => exact ⟨h1, h2, h3, h4⟩
  | some k =>
    refine ⟨h1, by simpa [Act.put] using h2, h3, fun t ht => ?_⟩
    simp only [updO, upd, Act.put]
    by_cases htk : t = k
    · subst htk
      have : Nat.beq t t = true := by simp
      rw [this]
      simp only [cond_true]
      have hlt : t < a.tmps.size := by omega
      simpa [Array.getD_eq_getD_getElem?, Array.getElem?_setIfInBounds, hlt] using hr
    · have : Nat.beq t k = false := by cases h : Nat.beq t k with | false => rfl | true => exact absurd (Nat.eq_of_beq_eq_true h) htk
      rw [this]
      simp only [cond_false]
      have := h4 t ht
      simpa [Array.getD_eq_getD_getElem?, Array.getElem?_setIfInBounds, Ne.symm htk] using this

theorem updO_undef {B : Base} {E : Env} {a : Act} {w : World} (hs : SatF B E n f m a w) (d : Option Nat) : SatF B E n (updO f d .undef) m (a.put d undef) w := updO_rep hs .undef

def opsIn (n : Nat) (op : Op) : Bool := op.operands.toList.all fun | .tmp t => t < n | _ => true
theorem opsIn_spec {op : Op} (h : opsIn n op = true) : ∀ x, x ∈ op.operands → ∀ t, x = .tmp t → t < n := by
  intro x hx t ht
  subst ht
  have := List.all_eq_true.1 h (.tmp t) (by simpa using hx)
  simpa using this

/-- The guard of an operation: wanted, or passed over. -/
def wantedF (ops : Array Oper) (f : F) (o : Oper) (b : Bool) : Prop :=
  match o.guard with
  | none => b = true
  | some (j, want) => ∃ d, (ops[j]?).bind (·.dst) = some d ∧ ((∃ v, f d = .bool v ∧ b = (v == want)) ∨ (f d = .undef ∧ b = false))
def guardIn (n : Nat) (ops : Array Oper) (o : Oper) : Bool :=
  match o.guard with
  | none => true
  | some (j, _) => match (ops[j]?).bind (·.dst) with | some d => d < n | none => false

theorem wanted_rep {B : Base} {E : Env} {a : Act} {w : World} (hs : SatF B E n f m a w) {o : Oper} {b : Bool} (h : wantedF ops f o b) (hn : guardIn n ops o = true) :
    Region.wanted o (yielded ops a.tmps) = b := by
  unfold wantedF at h
  unfold Region.wanted
  unfold guardIn at hn
  split at h
  · rename_i hg; rw [hg, h]
  · rename_i j want hg
    rw [hg]
    rw [hg] at hn
    obtain ⟨d, hd, hb⟩ := h
    simp only [hd, decide_eq_true_eq] at hn
    have hr := hs.2.2.2 d hn
    have hlt : d < a.tmps.size := by rw [hs.2.1]; exact hn
    have hget : a.tmps[d]? = some (a.tmps.getD d undef) := by simp [Array.getD_eq_getD_getElem?, hlt]
    have hy : yielded ops a.tmps j = match some (a.tmps.getD d undef) with | some (.bool b) => some b | _ => none := by
      unfold yielded
      rw [hd, Option.bind_some, hget]
      rfl
    show (yielded ops a.tmps j == some want) = b
    rw [hy]
    rcases hb with ⟨v, hf, rfl⟩ | ⟨hf, rfl⟩
    · rw [hf] at hr
      generalize hv : a.tmps.getD d undef = u at hr
      cases hr
      cases v <;> cases want <;> rfl
    · rw [hf] at hr
      generalize hv : a.tmps.getD d undef = u at hr
      cases hr
      rfl

theorem AL.val {o : Oper} {v : AV} (hg : wantedF ops f o true) (hgn : guardIn n ops o = true) (hop : AOp P m o.op o.type (evF f) v) (hin : opsIn n o.op = true)
    (h : AL P n ops Q rest (updO f o.dst v) m) : AL P n ops Q (o :: rest) f m := by
  intro B E w a hs
  obtain ⟨x, hx, hr⟩ := hop B E w a.eval o hs.1 rfl rfl (fun y hy => evF_rep hs y (opsIn_spec hin y hy))
  have hw := wanted_rep hs hg hgn
  unfold wpList
  rw [if_pos hw]
  refine .inl ?_
  unfold Oper.wp
  rw [hx]
  exact h B E w _ (updO_rep hs hr)

/-- The same for an operation without a guard. -/
theorem AL.val' {d : Option Nat} {op : Op} {ty : TypeId} {pos : String} {after : Array Edge} {v : AV} (hop : AOp P m op ty (evF f) v) (hin : opsIn n op = true)
    (h : AL P n ops Q rest (updO f d v) m) : AL P n ops Q (⟨d, op, ty, pos, after, none⟩ :: rest) f m :=
  AL.val (o := ⟨d, op, ty, pos, after, none⟩) rfl rfl hop hin h
/-- An operation that is passed over. -/
theorem AL.pass {o : Oper} (hg : wantedF ops f o false) (hgn : guardIn n ops o = true) (h : AL P n ops Q rest (updO f o.dst .undef) m) : AL P n ops Q (o :: rest) f m := by
  intro B E w a hs
  have hw := wanted_rep hs hg hgn
  unfold wpList
  rw [if_neg (by rw [hw]; simp)]
  exact h B E w _ (updO_undef hs _)

/-! ## Calls -/
/-- What an operation enters, if it is a call. -/
def ACallee (P : Program) (m : M) (op : Op) (ev : Operand → AV) (fid : FuncId) (args : List AV) : Prop :=
  ∀ E w (ρ : Operand → Value) (o : Oper), o.op = op → (∀ x, x ∈ op.operands → Rep E (ev x) (ρ x)) → ∃ vs : Array Value, (execOp ρ o).run P w = .ok (.enter fid vs) w ∧ Reps E args vs.toList

theorem AL.call {o : Oper} {fid : FuncId} {args : List AV} {ms mr : M} {R : AOut → M → Prop} (hg : wantedF ops f o true) (hgn : guardIn n ops o = true) (hop : ACallee P m o.op (evF f) fid args) (hin : opsIn n o.op = true)
    (hm : m.Perm (ms ++ mr)) (hc : ASpec P fid args ms R)
    (h : ∀ out m', R out m' → match out with | .ret v => AL P n ops Q rest (updO f o.dst v) (m' ++ mr) | .pan v => Q (.panic v) f (m' ++ mr)) : AL P n ops Q (o :: rest) f m := by
  intro B E w a hs
  obtain ⟨vs, hrun, hargs⟩ := hop E w a.eval o rfl (fun y hy => evF_rep hs y (opsIn_spec hin y hy))
  have hw := wanted_rep hs hg hgn
  unfold wpList
  rw [if_pos hw]
  refine .inl ?_
  unfold Oper.wp
  rw [hrun]
  refine (hc E w vs (hs.1.enter hm) hargs).mono ?_
  rintro e w' ⟨E', m', out, hs', hout, hR⟩
  have hb := hs.1.back hm hs'
  have hF : SatF B E' n f (m' ++ mr) a w' := ⟨hb, hs.2.1, hs.2.2.1, fun t ht => (hs.2.2.2 t ht).mono hs'.le⟩
  have hk := h out m' hR
  cases out with
  | ret v =>
    cases e with
    | returned x => exact hk B E' w' _ (updO_rep hF hout)
    | panicked c => exact hout.elim
    | outgrown => exact hout.elim
  | pan v =>
    cases e with
    | returned x => exact hout.elim
    | panicked c => obtain ⟨u, hu, hr⟩ := hout; exact ⟨E', f, m' ++ mr, v, u, hu, hr, hF, hk⟩
    | outgrown => exact hout.elim

/-! ## A function's body -/
def argF (args : List AV) : F := fun t => args.getD t .undef
/-- A variable of type t is loaded. -/
def ALd (P : Program) (m : M) (t : TypeId) (p v : AV) : Prop :=
  ∀ B E w u, Sat B E m w → Rep E p u → ∃ b off, u = .pointer (some ⟨b, off, none⟩) ∧ ∃ x, (loadVar t ⟨b, off, none⟩).run P w = .ok x w ∧ Rep E v x

inductive AResults (P : Program) (f : F) (m : M) : List ResultVar → List AV → Prop
  | nil : AResults P f m [] []
  | tmp {t : Tmp} {v : AV} {rs : List ResultVar} {vs : List AV} (h : f t = v) (k : AResults P f m rs vs) : AResults P f m (.tmp t :: rs) (v :: vs)
  | cell {a : Tmp} {t : TypeId} {v : AV} {rs : List ResultVar} {vs : List AV} (h : ALd P m t (f a) v) (k : AResults P f m rs vs) : AResults P f m (.cell a t :: rs) (v :: vs)
def rsIn (n : Nat) (rs : List ResultVar) : Bool := rs.all fun | .tmp t => t < n | .cell a _ => a < n
def outOf : List AV → AV
  | [v] => v
  | vs => .tuple vs
def bodyQ (P : Program) (rs : List ResultVar) (R : AOut → M → Prop) : AQ
  | .normal, f, m => ∃ vs, AResults P f m rs vs ∧ R (.ret (outOf vs)) m
  | .ret, f, m => ∃ vs, AResults P f m rs vs ∧ R (.ret (outOf vs)) m
  | .panic v, _, m => R (.pan v) m
  | _, _, _ => False

theorem results_run {B : Base} {E : Env} {a : Act} {w : World} (hs : SatF B E n f m a w) (g : ResultVar → Sem Value)
    (hg1 : ∀ t, g (.tmp t) = pure (a.tmps.getD t undef)) (hg2 : ∀ c t, g (.cell c t) = do loadVar t (← asAddr (a.tmps.getD c undef))) {rs : List ResultVar} {vs : List AV}
    (h : AResults P f m rs vs) (hn : rsIn n rs = true) : ∃ xs : List Value, (rs.mapM g).run P w = .ok xs w ∧ Reps E vs xs := by
  induction h with
  | nil => exact ⟨[], by simp, .nil E⟩
  | @tmp t v rs vs h k ih =>
    simp only [rsIn, List.all_cons, Bool.and_eq_true, decide_eq_true_eq] at hn
    obtain ⟨xs, hx, hr⟩ := ih hn.2
    refine ⟨a.tmps.getD t undef :: xs, ?_, .cons (h ▸ hs.2.2.2 t hn.1) hr⟩
    simp [List.mapM_cons, hg1, hx]
  | @cell c t v rs vs h k ih =>
    simp only [rsIn, List.all_cons, Bool.and_eq_true, decide_eq_true_eq] at hn
    obtain ⟨xs, hx, hr⟩ := ih hn.2
    obtain ⟨b, off, hu, x, hx1, hr1⟩ := h B E w _ hs.1 (hs.2.2.2 c hn.1)
    refine ⟨x :: xs, ?_, .cons hr1 hr⟩
    have : g (.cell c t) = loadVar t ⟨b, off, none⟩ := by rw [hg2, hu]; rfl
    simp [List.mapM_cons, this, hx, hx1]

theorem ASpec.of_body {fid : FuncId} {fn : Func} {c : Code} {args : List AV} {rs : List ResultVar} {R : AOut → M → Prop} (hf : P.funcs[fid]? = some fn) (hb : fn.body = some c) (hn : fn.ntmps = n) (hal : args.length ≤ n) (hrs : fn.results = rs.toArray) (hri : rsIn n rs = true)
    (h : AW P n c (bodyQ P rs R) (argF args) m) : ASpec P fid args m R := by
  intro E w vs hs hv
  have hsz : vs.size = args.length := by simpa using hv.1
  refine calls_of_wp hf hb (Code.wp_mono (fun e a w' q => ?_) (h (baseOf E m w) E w { tmps := vs ++ Array.replicate (fn.ntmps - vs.size) undef, defers := [] } ⟨hs, ?_, rfl, ?_⟩))
  · have fin : ∀ E' f' m', SatF (baseOf E m w) E' n f' m' a w' → (∃ vs, AResults P f' m' rs vs ∧ R (.ret (outOf vs)) m') →
        a.defers = [] ∧ ∃ v, (results fn a.tmps).run P w' = .ok v w' ∧ ∃ E' m' out, Sat (baseOf E m w) E' m' w' ∧ outRep E' out (.returned v) ∧ R out m' := by
      rintro E' f' m' hs' ⟨avs, hr, hR⟩
      obtain ⟨xs, hx, hrep⟩ := results_run (P := P) hs' (fun r => match r with | .tmp t => pure (a.tmps.getD t undef) | .cell c t => do loadVar t (← asAddr (a.tmps.getD c undef))) (fun _ => rfl) (fun _ _ => rfl) hr hri
      refine ⟨hs'.2.2.1, if h : xs.toArray.size = 1 then xs.toArray[0] else .tuple xs.toArray, ?_, E', m', .ret (outOf avs), hs'.1, ?_, hR⟩
      · unfold results
        rw [hrs, List.mapM_toArray, Sem.run_bind, Sem.run_map]
        refine Eq.trans (congrArg (fun r => (Result.andThen (Result.andThen r _) _)) hx) ?_
        rfl
      · show Rep E' (outOf avs) _
        have hl : avs.length = xs.length := hrep.1.symm
        match avs, xs, hrep with
        | [v], [x], hrep => exact hrep.2 0 (Nat.zero_lt_one)
        | [], [], hrep => exact .tuple [] #[] rfl (fun i h => by cases h)
        | a1 :: a2 :: as, x1 :: x2 :: xs', hrep =>
          rw [dif_neg (by simp)]
          refine .tuple _ _ (by simpa using hrep.1) (fun i hi => ?_)
          have := hrep.2 i hi
          simpa [Array.getD_eq_getD_getElem?, List.getD_eq_getElem?_getD] using this
        | [v], x1 :: x2 :: xs', hrep => simp at hl
        | [v], [], hrep => simp at hl
        | [], x1 :: xs', hrep => simp at hl
        | a1 :: a2 :: as, [x], hrep => simp at hl
        | a1 :: a2 :: as, [], hrep => simp at hl
    cases e with
    | normal => obtain ⟨E', f', m', hs', h2⟩ := q; exact fin E' f' m' hs' h2
    | ret => obtain ⟨E', f', m', hs', h2⟩ := q; exact fin E' f' m' hs' h2
    | exit => obtain ⟨_, _, _, _, h2⟩ := q; exact h2
    | goto => obtain ⟨_, _, _, _, h2⟩ := q; exact h2
    | panic ch => obtain ⟨E', f', m', v, u, h1, h2, h3, h4⟩ := q; exact ⟨h3.2.2.1, E', m', .pan v, h3.1, ⟨u, h1, h2⟩, h4⟩
    | outgrown => exact q.elim
  · simp [hsz, hn]; omega
  · intro t ht
    unfold argF
    by_cases hlt : t < args.length
    · have := hv.2 t hlt
      have hvs : t < vs.size := by omega
      simpa [List.getD_eq_getElem?_getD, Array.getD_eq_getD_getElem?, Array.getElem?_append, hlt, hvs] using this
    · have hvs : ¬ t < vs.size := by omega
      have : (vs ++ Array.replicate (fn.ntmps - vs.size) undef).getD t undef = undef := by
        simp [Array.getD_eq_getD_getElem?, Array.getElem?_append, hvs, Array.getElem?_replicate]
        split <;> rfl
      rw [this]
      simp [List.getD_eq_getElem?_getD, hlt]
      exact .undef
end Go.V
