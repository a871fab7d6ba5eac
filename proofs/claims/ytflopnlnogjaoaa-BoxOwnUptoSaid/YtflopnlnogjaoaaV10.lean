/- Regions whose order is open: an order of the text's own serves for all, if what is read hangs on no other operation. -/
import Derived.Test.YtflopnlnogjaoaaV9
set_option linter.unusedVariables false
set_option linter.unusedSimpArgs false
namespace Go.V
open Go Go.RowKit

variable {P : Program} {n : Nat} {f : F} {m : M} {Q : AQ} {ops : Array Oper} {rest : List Oper} {ev : Operand → AV} {ty : TypeId}

/-- Operation j waits for operation i. -/
def depB (ops : Array Oper) : Nat → Nat → Nat → Bool
  | 0, _, _ => false
  | k + 1, j, i => match ops[j]? with
    | none => false
    | some o => o.after.any fun e => Region.binds .any e && (e.on == i || depB ops k e.on i)
def Closed (ops : Array Oper) (D : Nat → Prop) (j : Nat) : Prop := ∀ o, ops[j]? = some o → ∀ e, e ∈ o.after → Region.binds .any e = true → D e.on
theorem depB_in {D : Nat → Prop} (hD : ∀ j, D j → Closed ops D j) : ∀ (k j i : Nat), Closed ops D j → depB ops k j i = true → D i
  | 0, _, _, _, h => by simp [depB] at h
  | k + 1, j, i, hj, h => by
    simp only [depB] at h
    split at h
    · cases h
    · rename_i o ho
      obtain ⟨e, he, hb⟩ := Array.any_eq_true'.1 h
      simp only [Bool.and_eq_true, Bool.or_eq_true, beq_iff_eq] at hb
      have hin := hj o ho e he hb.1
      rcases hb.2 with h1 | h1
      · rw [← h1]; exact hin
      · exact depB_in hD k e.on i (hD _ hin) h1

/-- The slots that an operation looks at. -/
def looks (ops : Array Oper) (o : Oper) : List Nat :=
  (o.op.operands.toList.filterMap fun | .tmp t => some t | _ => none) ++
  (match o.guard with
   | some (g, _) => ((ops[g]?).bind (·.dst)).toList
   | none => [])
def topoB (ops : Array Oper) : List Nat → List (Nat × Nat) → Bool
  | _, [] => true
  | seen, (i, _) :: r => !seen.contains i && (match ops[i]? with | none => false | some o => o.after.all fun e => !Region.binds .any e || seen.contains e.on) && topoB ops (i :: seen) r
def stageB (ops : Array Oper) : List Nat → List (Nat × Nat) → Bool
  | _, [] => true
  | seen, (i, k) :: r => (k == 0 || (r.all (fun p => depB ops ops.size p.1 i) && (k == 1 || seen.all fun s => depB ops ops.size i s))) && stageB ops (i :: seen) r
def slotB (n : Nat) (ops : Array Oper) : Bool :=
  (List.range ops.size).all fun j => match ops[j]? with
    | none => true
    | some o => (looks ops o).all (fun t => t < n) && opsIn n o.op && guardIn n ops o && (List.range ops.size).all fun i => match ops[i]? with
      | none => true
      | some oi => match oi.dst with
        | none => true
        | some d => (i == j || o.dst != some d) && (!(looks ops o).contains d || depB ops ops.size j i)
/-- The order may stand for all orders. -/
def okOrder (n : Nat) (ops : Array Oper) (order : List (Nat × Nat)) : Bool :=
  (List.range ops.size).all (fun i => order.any fun p => p.1 == i) && topoB ops [] order && stageB ops [] order && slotB n ops

/-- An operation with an effect: what it comes to from a state of which it sees its operands alone. -/
def EF (P : Program) (n : Nat) (S : M) (o : Oper) (f : F) (m : M) (K : F → M → Prop) : Prop :=
  ∀ B E w (a : Act), Sat B E m w → a.tmps.size = n → a.defers = [] → (∀ x, x ∈ o.op.operands → Rep E (evF f x) (a.eval x)) →
    ∀ Q', o.wp P a w (fun a' w' => ∃ E' v x m', Env.le E E' ∧ Sat B E' m' w' ∧ Rep E' v x ∧ a' = a.put o.dst x ∧ K (updO f o.dst v) m' ∧ ∃ x, m'.Perm (S ++ x)) Q'

/-- An order's rest. S: what stays as it is while operations wait. -/
inductive Chain (P : Program) (n : Nat) (ops : Array Oper) (Q : AQ) : M → List (Nat × Nat) → F → M → Prop
  | done {S : M} {f : F} {m : M} (h : Q .normal f m) : Chain P n ops Q S [] f m
  | free {S : M} {i : Nat} {o : Oper} {r : List (Nat × Nat)} {f : F} {m : M} {v : AV} (ho : ops[i]? = some o) (hg : wantedF ops f o true) (h : AOp P S o.op o.type (evF f) v) (k : Chain P n ops Q S r (updO f o.dst v) m) : Chain P n ops Q S ((i, 0) :: r) f m
  | pass {S : M} {i : Nat} {o : Oper} {r : List (Nat × Nat)} {f : F} {m : M} (ho : ops[i]? = some o) (hg : wantedF ops f o false) (k : Chain P n ops Q S r (updO f o.dst .undef) m) : Chain P n ops Q S ((i, 0) :: r) f m
  | eff {S : M} {i : Nat} {o : Oper} {r : List (Nat × Nat)} {f : F} {m : M} (K : F → M → Prop) (ho : ops[i]? = some o) (hg : wantedF ops f o true) (h : EF P n S o f m K) (hK : ∀ f m, K f m → Chain P n ops Q S r f m) : Chain P n ops Q S ((i, 1) :: r) f m
  | bar {S : M} {i : Nat} (S' : F → M → M) {o : Oper} {r : List (Nat × Nat)} {f : F} {m : M} (K : F → M → Prop) (ho : ops[i]? = some o) (hg : wantedF ops f o true) (h : EF P n [] o f m K) (hS : ∀ f m, K f m → ∃ x, m.Perm (S' f m ++ x)) (hK : ∀ f m, K f m → Chain P n ops Q (S' f m) r f m) : Chain P n ops Q S ((i, 2) :: r) f m
  | last {S : M} {i : Nat} {o : Oper} {f : F} {m : M} (ho : ops[i]? = some o) (h : AL P n ops Q [o] (updO f o.dst .junk) m) : Chain P n ops Q S [(i, 2)] f m

theorem AOp.congr {op : Op} {ev ev' : Operand → AV} {v : AV} (h : AOp P m op ty ev v) (he : ∀ x, x ∈ op.operands → ev' x = ev x) : AOp P m op ty ev' v :=
  fun B E w ρ o hs ho hty hr => h B E w ρ o hs ho hty (fun x hx => by rw [← he x hx]; exact hr x hx)
theorem AOp.more {op : Op} {m' : M} {v : AV} (h : AOp P m op ty ev v) (hm : m.Sublist m') : AOp P m' op ty ev v :=
  fun B E w ρ o hs ho hty hr => h B E w ρ o (hs.sub hm) ho hty hr
theorem looks_op {o : Oper} {t : Nat} (h : Operand.tmp t ∈ o.op.operands) : t ∈ looks ops o :=
  List.mem_append_left _ (List.mem_filterMap.2 ⟨.tmp t, by simpa using h, rfl⟩)
theorem evF_updO_ne {d : Option Nat} {v : AV} {x : Operand} (h : ∀ t, x = .tmp t → d ≠ some t) : evF (updO f d v) x = evF f x := by
  cases x with
  | tmp t =>
    cases d with
    | none => rfl
    | some k => exact upd_ne f v (fun e => h t rfl (by rw [e]))
  | const => rfl
  | global => rfl
  | func => rfl
theorem wantedF_congr {f' : F} {o : Oper} {b : Bool} (h : wantedF ops f o b) (he : ∀ t, t ∈ looks ops o → f' t = f t) : wantedF ops f' o b := by
  unfold wantedF at h ⊢
  cases hg : o.guard with
  | none => rw [hg] at h; exact h
  | some p =>
    obtain ⟨j, want⟩ := p
    rw [hg] at h
    obtain ⟨d, hd, hc⟩ := h
    have : f' d = f d := he d (List.mem_append_right _ (by rw [hg]; simp [hd]))
    exact ⟨d, hd, by rw [this]; exact hc⟩

/-- An operation that may have been reckoned ahead. -/
def Pend (P : Program) (ops : Array Oper) (f : F) (m : M) (o : Oper) : Prop :=
  (wantedF ops f o true ∧ ∃ v, AOp P m o.op o.type (evF f) v ∧ ∀ d, o.dst = some d → f d = v) ∨ (wantedF ops f o false ∧ ∀ d, o.dst = some d → f d = .undef)

structure Sched (P : Program) (n : Nat) (ops : Array Oper) (order C : List (Nat × Nat)) (D : Nat → Prop) (B : Base) (E : Env) (S : M) (f : F) (m : M) (a : Act) (w : World) : Prop where
  sat : Sat B E m w
  sub : ∃ x, m.Perm (S ++ x)
  size : a.tmps.size = n
  defers : a.defers = []
  others : ∀ t, t < n → (∀ (i : Nat) (o : Oper), ops[i]? = some o → o.dst ≠ some t) → Rep E (f t) (a.tmps.getD t undef)
  doneRep : ∀ (i : Nat) (o : Oper) (d : Nat), D i → ops[i]? = some o → o.dst = some d → d < n → Rep E (f d) (a.tmps.getD d undef)
  inC : ∀ i, D i → ∃ k, (i, k) ∈ C
  eff : ∀ i k, (i, k) ∈ C → k ≠ 0 → D i
  pend : ∀ i k, (i, k) ∈ C → ¬ D i → ∃ o, ops[i]? = some o ∧ Pend P ops f S o
  closed : ∀ j, D j → Closed ops D j

section
variable {order : List (Nat × Nat)} {S : M}
theorem topo_nodup : ∀ {seen : List Nat} {order : List (Nat × Nat)}, topoB ops seen order = true → ∀ {C : List (Nat × Nat)} {i k : Nat} {r : List (Nat × Nat)}, order = C ++ (i, k) :: r → i ∉ seen ∧ ∀ k', (i, k') ∉ C
  | seen, [], h, C, i, k, r, e => by cases C <;> simp at e
  | seen, (i0, k0) :: order, h, C, i, k, r, e => by
    simp only [topoB, Bool.and_eq_true, Bool.not_eq_true'] at h
    cases C with
    | nil =>
      simp at e
      obtain ⟨⟨rfl, rfl⟩, rfl⟩ := e
      exact ⟨by simpa using h.1.1, fun k' => by simp⟩
    | cons c C =>
      simp at e
      obtain ⟨rfl, e⟩ := e
      obtain ⟨h1, h2⟩ := topo_nodup h.2 e
      refine ⟨fun hs => h1 (List.mem_cons_of_mem _ hs), fun k' hk => ?_⟩
      rcases List.mem_cons.1 hk with hk | hk
      · cases hk; exact h1 List.mem_cons_self
      · exact h2 k' hk
theorem topo_closed : ∀ {seen : List Nat} {order : List (Nat × Nat)}, topoB ops seen order = true → ∀ {C : List (Nat × Nat)} {r : List (Nat × Nat)}, order = C ++ r → ∀ i k, (i, k) ∈ C → Closed ops (fun s => s ∈ seen ∨ ∃ k, (s, k) ∈ C) i
  | seen, [], h, C, r, e, i, k, hi => by cases C <;> simp at e hi
  | seen, (i0, k0) :: order, h, C, r, e, i, k, hi => by
    simp only [topoB, Bool.and_eq_true, Bool.not_eq_true'] at h
    cases C with
    | nil => simp at hi
    | cons c C =>
      simp at e
      obtain ⟨rfl, e⟩ := e
      rcases List.mem_cons.1 hi with hi | hi
      · cases hi
        intro o ho e' he' hb
        have := h.1.2
        rw [ho] at this
        have := Array.all_eq_true_iff_forall_mem.1 this e' he'
        simp [hb] at this
        exact .inl this
      · intro o ho e' he' hb
        rcases topo_closed h.2 e i k hi o ho e' he' hb with h1 | ⟨k', h1⟩
        · rcases List.mem_cons.1 h1 with h1 | h1
          · exact .inr ⟨k0, by rw [h1]; exact List.mem_cons_self⟩
          · exact .inl h1
        · exact .inr ⟨k', List.mem_cons_of_mem _ h1⟩
theorem stage_spec : ∀ {seen : List Nat} {order : List (Nat × Nat)}, stageB ops seen order = true → ∀ {C : List (Nat × Nat)} {i k : Nat} {r : List (Nat × Nat)}, order = C ++ (i, k) :: r → k ≠ 0 →
    (∀ p, p ∈ r → depB ops ops.size p.1 i = true) ∧ ((k == 1) = false → ∀ p, p ∈ C → depB ops ops.size i p.1 = true)
  | seen, [], h, C, i, k, r, e, hk => by cases C <;> simp at e
  | seen, (i0, k0) :: order, h, C, i, k, r, e, hk => by
    simp only [stageB, Bool.and_eq_true, Bool.or_eq_true, beq_iff_eq] at h
    cases C with
    | nil =>
      simp at e
      obtain ⟨⟨rfl, rfl⟩, rfl⟩ := e
      rcases h.1 with h0 | h0
      · exact absurd h0 hk
      · exact ⟨fun p hp => List.all_eq_true.1 h0.1 p hp, fun _ p hp => by cases hp⟩
    | cons c C =>
      simp at e
      obtain ⟨rfl, e⟩ := e
      obtain ⟨h1, h2⟩ := stage_spec h.2 e hk
      refine ⟨h1, fun hk1 p hp => ?_⟩
      -- the element at the head: asked of the later one by what was seen
      have key : ∀ {seen : List Nat} {order : List (Nat × Nat)}, stageB ops seen order = true → ∀ {C : List (Nat × Nat)}, order = C ++ (i, k) :: r → ∀ s, s ∈ seen → depB ops ops.size i s = true := by
        intro seen order
        induction order generalizing seen with
        | nil => intro _ C e; cases C <;> simp at e
        | cons p order ih =>
          intro hst C e s hs
          simp only [stageB, Bool.and_eq_true, Bool.or_eq_true, beq_iff_eq] at hst
          cases C with
          | nil =>
            simp at e
            obtain ⟨rfl, rfl⟩ := e
            rcases hst.1 with h0 | h0
            · exact absurd h0 hk
            · rcases h0.2 with h0 | h0
              · have h0' : k = 1 := h0
                rw [h0'] at hk1; simp at hk1
              · exact List.all_eq_true.1 h0 s hs
          | cons c C =>
            simp at e
            exact ih hst.2 e.2 s (List.mem_cons_of_mem _ hs)
      rcases List.mem_cons.1 hp with hp | hp
      · rw [hp]; exact key h.2 e i0 List.mem_cons_self
      · exact h2 hk1 p hp

theorem slot_spec (hsl : slotB n ops = true) {j : Nat} {o : Oper} (hj : ops[j]? = some o) :
    (∀ t, t ∈ looks ops o → t < n) ∧ opsIn n o.op = true ∧ guardIn n ops o = true ∧ ∀ i oi d, ops[i]? = some oi → oi.dst = some d → (i = j ∨ o.dst ≠ some d) ∧ (d ∈ looks ops o → depB ops ops.size j i = true) := by
  have hjl : j < ops.size := (Array.getElem?_eq_some_iff.1 hj).1
  have h := List.all_eq_true.1 hsl j (by simpa using hjl)
  rw [hj] at h
  simp only [Bool.and_eq_true] at h
  obtain ⟨⟨⟨h1, h2⟩, h3⟩, h4⟩ := h
  refine ⟨fun t ht => by simpa using List.all_eq_true.1 h1 t ht, h2, h3, fun i oi d hi hd => ?_⟩
  have hil : i < ops.size := (Array.getElem?_eq_some_iff.1 hi).1
  have := List.all_eq_true.1 h4 i (by simpa using hil)
  rw [hi] at this
  simp only [hd, Bool.and_eq_true, Bool.or_eq_true, beq_iff_eq, bne_iff_ne, Bool.not_eq_true'] at this
  exact ⟨this.1, fun hm => this.2.resolve_left (by simpa using hm)⟩

/-- The operands of an operation all of whose grounds are done. -/
theorem Sched.operands {C : List (Nat × Nat)} {D : Nat → Prop} {B : Base} {E : Env} {a : Act} {w : World} (hs : Sched P n ops order C D B E S f m a w) (hsl : slotB n ops = true) {j : Nat} {o : Oper} (hj : ops[j]? = some o) (hc : Closed ops D j) :
    (∀ t, t ∈ looks ops o → Rep E (f t) (a.tmps.getD t undef)) := by
  intro t ht
  obtain ⟨h1, h2, h3, h4⟩ := slot_spec hsl hj
  by_cases hd : ∃ (i : Nat) (oi : Oper), ops[i]? = some oi ∧ oi.dst = some t
  · obtain ⟨i, oi, hi, hdi⟩ := hd
    have hdep := (h4 i oi t hi hdi).2 ht
    exact hs.doneRep i oi t (depB_in hs.closed _ _ _ hc hdep) hi hdi (h1 t ht)
  · exact hs.others t (h1 t ht) (fun i o hi hd' => hd ⟨i, o, hi, hd'⟩)
theorem Sched.evs {C : List (Nat × Nat)} {D : Nat → Prop} {B : Base} {E : Env} {a : Act} {w : World} (hs : Sched P n ops order C D B E S f m a w) (hsl : slotB n ops = true) {j : Nat} {o : Oper} (hj : ops[j]? = some o) (hc : Closed ops D j) :
    ∀ x, x ∈ o.op.operands → Rep E (evF f x) (a.eval x) := by
  intro x hx
  cases x with
  | tmp t => exact hs.operands hsl hj hc t (looks_op hx)
  | const v => exact ofConst_rep E v
  | global g => exact .junk _
  | func k => exact .fn _ _ _ _ _ rfl rfl (fun i h => by cases h) (fun i h => by cases h)
theorem Sched.wanted {C : List (Nat × Nat)} {D : Nat → Prop} {B : Base} {E : Env} {a : Act} {w : World} (hs : Sched P n ops order C D B E S f m a w) (hsl : slotB n ops = true) {j : Nat} {o : Oper} (hj : ops[j]? = some o) (hc : Closed ops D j) {b : Bool}
    (hb : wantedF ops f o b) : Region.wanted o (yielded ops a.tmps) = b := by
  obtain ⟨h1, h2, h3, h4⟩ := slot_spec hsl hj
  unfold wantedF at hb
  unfold Region.wanted
  cases hg : o.guard with
  | none => rw [hg] at hb; simp only; exact hb.symm
  | some p =>
    obtain ⟨g, want⟩ := p
    rw [hg] at hb
    simp only
    obtain ⟨d, hd, hv⟩ := hb
    have hlk : d ∈ looks ops o := List.mem_append_right _ (by rw [hg]; simp [hd])
    have hr := hs.operands hsl hj hc d hlk
    have hlt : d < a.tmps.size := by rw [hs.size]; exact h1 d hlk
    have hget : a.tmps[d]? = some (a.tmps.getD d undef) := by simp [Array.getD_eq_getD_getElem?, hlt]
    have hy : yielded ops a.tmps g = match some (a.tmps.getD d undef) with | some (.bool b) => some b | _ => none := by
      unfold yielded
      rw [hd, Option.bind_some, hget]
      rfl
    rw [hy]
    rcases hv with ⟨v, hf, rfl⟩ | ⟨hf, rfl⟩
    · rw [hf] at hr
      generalize hv : a.tmps.getD d undef = u at hr
      cases hr
      cases v <;> cases want <;> rfl
    · rw [hf] at hr
      generalize hv : a.tmps.getD d undef = u at hr
      cases hr
      rfl
theorem Pend.congr {f' : F} {m' : M} {o : Oper} (h : Pend P ops f m o) (hm : m.Sublist m') (he : ∀ t, t ∈ looks ops o → f' t = f t) (hd : ∀ d, o.dst = some d → f' d = f d) : Pend P ops f' m' o := by
  have hev : ∀ x, x ∈ o.op.operands → evF f' x = evF f x := by
    intro x hx
    cases x with
    | tmp t => exact he t (looks_op hx)
    | const => rfl
    | global => rfl
    | func => rfl
  rcases h with ⟨h1, v, h2, h3⟩ | ⟨h1, h2⟩
  · exact .inl ⟨wantedF_congr h1 he, v, (h2.congr hev).more hm, fun d hd' => (hd d hd').trans (h3 d hd')⟩
  · exact .inr ⟨wantedF_congr h1 he, fun d hd' => (hd d hd').trans (h2 d hd')⟩

theorem updO_at {d : Option Nat} {v : AV} {k : Nat} (h : d = some k) : updO f d v k = v := by subst h; exact upd_at f k v
theorem updO_ne {d : Option Nat} {v : AV} {t : Nat} (h : d ≠ some t) : updO f d v t = f t := by
  cases d with
  | none => rfl
  | some k => exact upd_ne f v (fun e => h (by rw [e]))

/-- What is free is reckoned ahead. -/
theorem Sched.ahead (htopo : topoB ops [] order = true) (hsl : slotB n ops = true) : ∀ {todo C : List (Nat × Nat)} {f : F} {m : M} {D : Nat → Prop} {B : Base} {E : Env} {a : Act} {w : World}, order = C ++ todo → Chain P n ops Q S todo f m → Sched P n ops order C D B E S f m a w →
    ∃ C' todo' f' m', order = C' ++ todo' ∧ Chain P n ops Q S todo' f' m' ∧ Sched P n ops order C' D B E S f' m' a w ∧ (todo' = [] ∨ ∃ i k r, todo' = (i, k) :: r ∧ k ≠ 0) := by
  intro todo
  induction todo with
  | nil => intro C f m D B E a w ho hc hs; exact ⟨C, [], f, m, ho, hc, hs, .inl rfl⟩
  | cons p todo ih =>
    intro C f m D B E a w ho hc hs
    obtain ⟨i, k⟩ := p
    by_cases hk : k = 0
    · subst hk
      obtain ⟨hn1, hn2⟩ := topo_nodup htopo ho
      have hnd : ¬ D i := fun hd => let ⟨k', hk'⟩ := hs.inC i hd; hn2 k' hk'
      have step : ∀ (o : Oper) (v : AV), ops[i]? = some o → True → ((wantedF ops f o true ∧ AOp P S o.op o.type (evF f) v) ∨ (wantedF ops f o false ∧ v = .undef)) → Chain P n ops Q S todo (updO f o.dst v) m →
          ∃ C' todo' f' m', order = C' ++ todo' ∧ Chain P n ops Q S todo' f' m' ∧ Sched P n ops order C' D B E S f' m' a w ∧ (todo' = [] ∨ ∃ i k r, todo' = (i, k) :: r ∧ k ≠ 0) := by
        intro o v hio _ hcase hch
        obtain ⟨s1, s2, s3, s4⟩ := slot_spec hsl hio
        -- nobody else looks at this slot who has been reckoned
        have hself : ∀ d, o.dst = some d → d ∉ looks ops o := by
          intro d hd hl
          have hdep := (s4 i o d hio hd).2 hl
          have hcl := topo_closed htopo (C := C ++ [(i, 0)]) (r := todo) (by simpa using ho)
          have hin := depB_in (D := fun s => s ∈ ([] : List Nat) ∨ ∃ k, (s, k) ∈ C) (fun j hj => ?_) _ _ _ (fun o' ho' e he hb => ?_) hdep
          · rcases hin with h | ⟨k', h⟩
            · cases h
            · exact hn2 k' h
          · rcases hj with h | ⟨k', h⟩
            · cases h
            · exact topo_closed htopo ho j k' h
          · rcases hcl i 0 (by simp) o' ho' e he hb with h | ⟨k', h⟩
            · exact .inl h
            · rcases List.mem_append.1 h with h | h
              · exact .inr ⟨k', h⟩
              · -- it waits for itself: the order bars it
                simp at h
                exfalso
                have ht := htopo
                rw [ho] at ht
                have bar : ∀ (C : List (Nat × Nat)) (seen : List Nat), topoB ops seen (C ++ (i, 0) :: todo) = true → (∀ k, (i, k) ∉ C) → i ∉ seen → False := by
                  intro C
                  induction C with
                  | nil =>
                    intro seen h1 _ h3
                    simp only [List.nil_append, topoB, Bool.and_eq_true] at h1
                    have h4 := h1.1.2
                    rw [ho'] at h4
                    have := Array.all_eq_true_iff_forall_mem.1 h4 e he
                    simp [hb, h.1] at this
                    exact h3 this
                  | cons c C ihC =>
                    intro seen h1 h2 h3
                    simp only [List.cons_append, topoB, Bool.and_eq_true] at h1
                    refine ihC _ h1.2 (fun k hk => h2 k (List.mem_cons_of_mem _ hk)) (fun hc => ?_)
                    rcases List.mem_cons.1 hc with hc | hc
                    · exact h2 c.2 (by rw [hc]; exact List.mem_cons_self)
                    · exact h3 hc
                exact bar C [] ht hn2 (by simp)
        have hfree : ∀ j k' oj, (j, k') ∈ C → ops[j]? = some oj → ∀ t, t ∈ looks ops oj → o.dst ≠ some t := by
          intro j k' oj hj hoj t ht hd
          have hdep := (slot_spec hsl hoj).2.2.2 i o t hio hd |>.2 ht
          have hin := depB_in (D := fun s => s ∈ ([] : List Nat) ∨ ∃ k, (s, k) ∈ C) (fun j hj => by
            rcases hj with h | ⟨k', h⟩
            · cases h
            · exact topo_closed htopo ho j k' h) _ _ _ (topo_closed htopo ho j k' hj) hdep
          rcases hin with h | ⟨k', h⟩
          · cases h
          · exact hn2 k' h
        have hdst : ∀ j oj d, j ≠ i → ops[j]? = some oj → oj.dst = some d → o.dst ≠ some d := by
          intro j oj d hne hoj hd ho'
          rcases (s4 j oj d hoj hd).1 with h | h
          · exact hne h
          · exact h ho'
        refine ih (C := C ++ [(i, 0)]) (by simpa using ho) hch ?_
        refine { sat := hs.sat, sub := hs.sub, size := hs.size, defers := hs.defers, others := ?_, doneRep := ?_, inC := ?_, eff := ?_, pend := ?_, closed := hs.closed }
        · intro t ht hno
          rw [updO_ne (hno i o hio)]
          exact hs.others t ht hno
        · intro j oj d hj hoj hd hlt
          have hne : j ≠ i := fun e => hnd (e ▸ hj)
          rw [updO_ne (hdst j oj d hne hoj hd)]
          exact hs.doneRep j oj d hj hoj hd hlt
        · intro j hj
          obtain ⟨k', hk'⟩ := hs.inC j hj
          exact ⟨k', List.mem_append_left _ hk'⟩
        · intro j k' hj hk'
          rcases List.mem_append.1 hj with hj | hj
          · exact hs.eff j k' hj hk'
          · simp at hj; exact absurd hj.2 hk'
        · intro j k' hj hnj
          rcases List.mem_append.1 hj with hj | hj
          · obtain ⟨oj, hoj, hp⟩ := hs.pend j k' hj hnj
            have hne : j ≠ i := fun e => hn2 k' (e ▸ hj)
            exact ⟨oj, hoj, hp.congr (List.Sublist.refl _) (fun t ht => updO_ne (hfree j k' oj hj hoj t ht)) (fun d hd => updO_ne (hdst j oj d hne hoj hd))⟩
          · simp at hj
            obtain ⟨rfl, rfl⟩ := hj
            have hlk : ∀ t, t ∈ looks ops o → updO f o.dst v t = f t := fun t ht => updO_ne (fun hd => hself t hd ht)
            have hev : ∀ x, x ∈ o.op.operands → evF (updO f o.dst v) x = evF f x := fun x hx => by
              cases x with
              | tmp t => exact hlk t (looks_op hx)
              | const => rfl
              | global => rfl
              | func => rfl
            refine ⟨o, hio, ?_⟩
            rcases hcase with ⟨hw, hop⟩ | ⟨hw, rfl⟩
            · exact .inl ⟨wantedF_congr hw hlk, v, hop.congr hev, fun d hd => updO_at hd⟩
            · exact .inr ⟨wantedF_congr hw hlk, fun d hd => updO_at hd⟩
      cases hc with
      | free hio hg h hch => exact step _ _ hio trivial (.inl ⟨hg, h⟩) hch
      | pass hio hg hch => exact step _ _ hio trivial (.inr ⟨hg, rfl⟩) hch
    · exact ⟨C, (i, k) :: todo, f, m, ho, hc, hs, .inr ⟨i, k, todo, rfl, hk⟩⟩

def Dn (listed : Array Bool) (i : Nat) : Prop := listed.getD i false = true
theorem Dn_set {listed : Array Bool} {i j : Nat} (h : i < listed.size) : Dn (listed.setIfInBounds i true) j ↔ j = i ∨ Dn listed j := by
  unfold Dn
  by_cases hji : j = i
  · subst hji; simp [h]
  · rw [getD_set_ne false (Ne.symm hji)]; simp [hji]
def left (ops : Array Oper) (listed : Array Bool) : Nat := ((List.range ops.size).filter fun i => !listed.getD i false).length
theorem left_set {listed : Array Bool} {i : Nat} (hi : i < ops.size) (hl : listed.size = ops.size) (h : listed.getD i false = false) : left ops (listed.setIfInBounds i true) < left ops listed := by
  unfold left
  have hsub : ∀ l : List Nat, l.Nodup → i ∈ l → (l.filter fun j => !(listed.setIfInBounds i true).getD j false).length < (l.filter fun j => !listed.getD j false).length ∨ False := by
    intro l
    induction l with
    | nil => intro _ h; cases h
    | cons j l ih =>
      intro hnd hm
      rw [List.nodup_cons] at hnd
      by_cases hji : j = i
      · subst hji
        have e : (l.filter fun k => !(listed.setIfInBounds j true).getD k false) = l.filter fun k => !listed.getD k false := by
          apply List.filter_congr
          intro k hk
          rw [getD_set_ne false (show j ≠ k from fun e => hnd.1 (by rw [e]; exact hk))]
        have h1 : (listed.setIfInBounds j true).getD j false = true := by simp [hl, hi]
        rw [List.filter_cons, List.filter_cons, h1, h, e]
        exact .inl (by simp)
      · have hm' : i ∈ l := (List.mem_cons.1 hm).resolve_left (fun e => hji e.symm)
        have h1 : (listed.setIfInBounds i true).getD j false = listed.getD j false := getD_set_ne false (Ne.symm hji)
        rcases ih hnd.2 hm' with h2 | h2
        · refine .inl ?_
          simp only [List.filter_cons, h1]
          split
          · simpa using h2
          · exact h2
        · exact h2.elim
  exact (hsub _ List.nodup_range (by simpa using hi)).resolve_right id

theorem AW.draw {id : Nat} (order : List (Nat × Nat)) (hm : P.follows .mixedOrders = true) (hok : okOrder n ops order = true) (hS : ∃ x, m.Perm (S ++ x)) (h : Chain P n ops Q S order f m) : AW P n (.region id ops true) Q f m := by
  simp only [okOrder, Bool.and_eq_true] at hok
  obtain ⟨⟨⟨hall, htopo⟩, hstage⟩, hsl⟩ := hok
  have hmem : ∀ i, i < ops.size → ∃ k, (i, k) ∈ order := by
    intro i hi
    have := List.all_eq_true.1 hall i (by simpa using hi)
    obtain ⟨p, hp, he⟩ := List.any_eq_true.1 this
    exact ⟨p.2, by rw [← (show p.1 = i by simpa using he)]; exact hp⟩
  intro B E w a hs
  have main : ∀ (fuel : Nat) (listed : Array Bool) (C todo : List (Nat × Nat)) (S : M) (f : F) (m : M) (E : Env) (a : Act) (w : World), listed.size = ops.size → left ops listed ≤ fuel → order = C ++ todo → Chain P n ops Q S todo f m →
      (todo = [] ∨ ∃ i k r, todo = (i, k) :: r ∧ k ≠ 0) → Sched P n ops order C (Dn listed) B E S f m a w → wpAny P .any ops (lift B n Q) fuel listed a w := by
    -- where nothing may come up any more, all is done
    have over : ∀ (listed : Array Bool) (C todo : List (Nat × Nat)) (S : M) (f : F) (m : M) (E : Env) (a : Act) (w : World), listed.size = ops.size → order = C ++ todo → Chain P n ops Q S todo f m →
        (todo = [] ∨ ∃ i k r, todo = (i, k) :: r ∧ k ≠ 0) → Sched P n ops order C (Dn listed) B E S f m a w → Region.ready .any ops listed = [] → lift B n Q .normal a w := by
      intro listed C todo S f m E a w hl ho hc hd hs hr
      have alldone : ∀ i, i < ops.size → Dn listed i := by
        have walk : ∀ (r : List (Nat × Nat)) (seen : List Nat), topoB ops seen r = true → (∀ s, s ∈ seen → Dn listed s) → ∀ i k, (i, k) ∈ r → Dn listed i := by
          intro r
          induction r with
          | nil => intro _ _ _ i k hi; cases hi
          | cons p r ih =>
            intro seen ht hsn i k hi
            simp only [topoB, Bool.and_eq_true] at ht
            have hp : Dn listed p.1 := by
              cases hn : listed.getD p.1 false with
              | true => exact hn
              | false =>
                exfalso
                cases hop : ops[p.1]? with
                | none => have := ht.1.2; rw [hop] at this; cases this
                | some o =>
                  have hlt : p.1 < ops.size := (Array.getElem?_eq_some_iff.1 hop).1
                  have hin : p.1 ∈ Region.ready .any ops listed := by
                    rw [mem_ready]
                    refine ⟨by have := hn; simp [hl, hlt] at this ⊢; exact this, o, hop, fun e he hb => ?_⟩
                    have := ht.1.2
                    rw [hop] at this
                    have := Array.all_eq_true_iff_forall_mem.1 this e he
                    simp [hb] at this
                    exact hsn _ this
                  rw [hr] at hin
                  cases hin
            rcases List.mem_cons.1 hi with hi | hi
            · rw [← hi] at hp; exact hp
            · refine ih _ ht.2 (fun s hs' => ?_) i k hi
              rcases List.mem_cons.1 hs' with h | h
              · rw [h]; exact hp
              · exact hsn s h
        intro i hi
        obtain ⟨k, hk⟩ := hmem i hi
        exact walk order [] htopo (fun s hs => by cases hs) i k hk
      rcases hd with rfl | ⟨i, k, r, rfl, hk⟩
      · cases hc with
        | done hq =>
          refine ⟨E, f, m, ⟨hs.sat, hs.size, hs.defers, fun t ht => ?_⟩, hq⟩
          by_cases hex : ∃ (i : Nat) (o : Oper), ops[i]? = some o ∧ o.dst = some t
          · obtain ⟨i, o, hi, hdt⟩ := hex
            exact hs.doneRep i o t (alldone i (Array.getElem?_eq_some_iff.1 hi).1) hi hdt ht
          · exact hs.others t ht (fun i o hi hdt => hex ⟨i, o, hi, hdt⟩)
      · exfalso
        cases hc with
        | eff K hio =>
          have hdi := alldone i (Array.getElem?_eq_some_iff.1 hio).1
          obtain ⟨k', hk''⟩ := hs.inC i hdi
          exact (topo_nodup htopo ho).2 k' hk''
        | bar _ K hio =>
          have hdi := alldone i (Array.getElem?_eq_some_iff.1 hio).1
          obtain ⟨k', hk''⟩ := hs.inC i hdi
          exact (topo_nodup htopo ho).2 k' hk''
        | last hio =>
          have hdi := alldone i (Array.getElem?_eq_some_iff.1 hio).1
          obtain ⟨k', hk''⟩ := hs.inC i hdi
          exact (topo_nodup htopo ho).2 k' hk''
        | free => exact hk rfl
        | pass => exact hk rfl
    intro fuel
    induction fuel with
    | zero =>
      intro listed C todo S f m E a w hl hle ho hc hd hs
      have hr : Region.ready .any ops listed = [] := by
        apply List.eq_nil_iff_forall_not_mem.2
        intro i hi
        rw [mem_ready] at hi
        obtain ⟨h0, o, hio, _⟩ := hi
        have hlt : i < ops.size := (Array.getElem?_eq_some_iff.1 hio).1
        have : i ∈ (List.range ops.size).filter fun i => !listed.getD i false := by
          rw [List.mem_filter]
          refine ⟨by simpa using hlt, ?_⟩
          have hlt' : i < listed.size := by omega
          simp [hlt'] at h0 ⊢
          exact h0
        have h1 : left ops listed = 0 := Nat.le_zero.1 hle
        have h2 : (List.range ops.size).filter (fun i => !listed.getD i false) = [] := List.eq_nil_of_length_eq_zero h1
        rw [h2] at this
        cases this
      exact ⟨hr, over listed C todo S f m E a w hl ho hc hd hs hr⟩
    | succ fuel ih =>
      intro listed C todo S f m E a w hl hle ho hc hd hs
      refine ⟨over listed C todo S f m E a w hl ho hc hd hs, fun i hi => ?_⟩
      rw [mem_ready] at hi
      obtain ⟨h0, o, hio, hdeps⟩ := hi
      have hlt : i < ops.size := (Array.getElem?_eq_some_iff.1 hio).1
      have hlt' : i < listed.size := by omega
      have hnd : listed.getD i false = false := by simp [hlt'] at h0 ⊢; exact h0
      have hndD : ¬ Dn listed i := by unfold Dn; rw [hnd]; simp
      have hcl : Closed ops (Dn listed) i := fun o' ho' e he hb => by rw [hio] at ho'; cases ho'; exact hdeps e he hb
      have hl' : (listed.setIfInBounds i true).size = ops.size := by simpa using hl
      have hleft := left_set hlt hl hnd
      obtain ⟨s1, s2, s3, s4⟩ := slot_spec hsl hio
      have hcl' : ∀ j, Dn (listed.setIfInBounds i true) j → Closed ops (Dn (listed.setIfInBounds i true)) j := by
        intro j hj o' ho' e he hb
        rw [Dn_set hlt'] at hj ⊢
        rcases hj with rfl | hj
        · exact .inr (hcl o' ho' e he hb)
        · exact .inr (hs.closed j hj o' ho' e he hb)
      have hdst : ∀ j oj d, j ≠ i → ops[j]? = some oj → oj.dst = some d → o.dst ≠ some d := by
        intro j oj d hne hoj hd ho'
        rcases (s4 j oj d hoj hd).1 with h | h
        · exact hne h
        · exact h ho'
      unfold wpOp
      simp only [hio]
      by_cases hiC : ∃ k, (i, k) ∈ C
      · -- it was reckoned ahead
        obtain ⟨k, hk⟩ := hiC
        obtain ⟨o', ho', hp⟩ := hs.pend i k hk hndD
        rw [hio] at ho'
        cases ho'
        have next : ∀ x v, Rep E v x → (∀ d, o.dst = some d → f d = v) → wpAny P .any ops (lift B n Q) fuel (listed.setIfInBounds i true) (a.put o.dst x) w := by
          intro x v hx hv
          refine ih _ C todo S f m E _ w hl' (by omega) ho hc hd ?_
          refine { sat := hs.sat, sub := hs.sub, size := ?_, defers := ?_, others := ?_, doneRep := ?_, inC := ?_, eff := ?_, pend := ?_, closed := hcl' }
          · cases o.dst <;> simpa [Act.put] using hs.size
          · cases o.dst <;> exact hs.defers
          · intro t ht hno
            have hne := hno i o hio
            have : (a.put o.dst x).tmps.getD t undef = a.tmps.getD t undef := by
              cases hod : o.dst with
              | none => rfl
              | some d =>
                have : d ≠ t := fun e => hne (by rw [hod, e])
                simp [Act.put, Array.getD_eq_getD_getElem?, Array.getElem?_setIfInBounds, this]
            rw [this]
            exact hs.others t ht hno
          · intro j oj d hj hoj hd' hlt2
            rw [Dn_set hlt'] at hj
            rcases hj with rfl | hj
            · rw [hio] at hoj
              cases hoj
              rw [hv d hd', hd']
              have : d < a.tmps.size := by rw [hs.size]; exact hlt2
              simpa [Act.put, Array.getD_eq_getD_getElem?, Array.getElem?_setIfInBounds, this] using hx
            · have hne : j ≠ i := fun e => hndD (e ▸ hj)
              have hod := hdst j oj d hne hoj hd'
              have : (a.put o.dst x).tmps.getD d undef = a.tmps.getD d undef := by
                cases hod' : o.dst with
                | none => rfl
                | some d' =>
                  have : d' ≠ d := fun e => hod (by rw [hod', e])
                  simp [Act.put, Array.getD_eq_getD_getElem?, Array.getElem?_setIfInBounds, this]
              rw [this]
              exact hs.doneRep j oj d hj hoj hd' hlt2
          · intro j hj
            rw [Dn_set hlt'] at hj
            rcases hj with rfl | hj
            · exact ⟨k, hk⟩
            · exact hs.inC j hj
          · intro j k' hj hk'
            rw [Dn_set hlt']
            exact .inr (hs.eff j k' hj hk')
          · intro j k' hj hnj
            rw [Dn_set hlt'] at hnj
            exact hs.pend j k' hj (fun h => hnj (.inr h))
        rcases hp with ⟨hw, v, hop, hv⟩ | ⟨hw, hv⟩
        · rw [if_pos (hs.wanted hsl hio hcl hw)]
          obtain ⟨xs, hxs⟩ := hs.sub
          obtain ⟨x, hrun, hx⟩ := hop B E w a.eval o ((hs.sat.perm hxs).sub (List.sublist_append_left _ _)) rfl rfl (hs.evs hsl hio hcl)
          refine .inl ?_
          unfold Oper.wp
          rw [hrun]
          exact next x v hx hv
        · rw [if_neg (by rw [hs.wanted hsl hio hcl hw]; simp)]
          exact next undef .undef .undef hv
      · -- it is the one whose turn it is
        have hto : ∃ k r, todo = (i, k) :: r ∧ k ≠ 0 := by
          obtain ⟨k0, hk0⟩ := hmem i hlt
          rw [ho] at hk0
          have hin : (i, k0) ∈ todo := (List.mem_append.1 hk0).resolve_left (fun h => hiC ⟨k0, h⟩)
          rcases hd with rfl | ⟨j, k, r, rfl, hk⟩
          · cases hin
          · rcases List.mem_cons.1 hin with h | h
            · cases h; exact ⟨_, r, rfl, hk⟩
            · exfalso
              have hdep := (stage_spec hstage ho hk).1 (i, k0) h
              have := depB_in hs.closed _ _ _ hcl hdep
              obtain ⟨k', hk'⟩ := hs.inC j this
              exact (topo_nodup htopo ho).2 k' hk'
        obtain ⟨k, r, rfl, hk⟩ := hto
        obtain ⟨hn1, hn2⟩ := topo_nodup htopo ho
        obtain ⟨hst1, hst2⟩ := stage_spec hstage ho hk
        have effect : ∀ (S0 : M) (K : F → M → Prop), wantedF ops f o true → EF P n S0 o f m K → (∀ f m, K f m → (∃ x, m.Perm (S0 ++ x)) → ∃ S', ((k == 1) = true → S = S') ∧ (∃ x, m.Perm (S' ++ x)) ∧ Chain P n ops Q S' r f m) → (if Region.wanted o (yielded ops a.tmps) then o.wp P a w (fun a' w' => wpAny P .any ops (lift B n Q) fuel (listed.setIfInBounds i true) a' w') (lift B n Q) ∨ (o.asks P a w ∧ LetsOut (lift B n Q)) else wpAny P .any ops (lift B n Q) fuel (listed.setIfInBounds i true) (a.put o.dst undef) w) := by
          intro S0 K hg hef hK0
          rw [if_pos (hs.wanted hsl hio hcl hg)]
          refine .inl ?_
          refine Oper.wp_mono ?_ (hef B E w a hs.sat hs.size hs.defers (hs.evs hsl hio hcl) (lift B n Q))
          rintro a' w' ⟨E', v, x, m', hle, hs', hr, rfl, hkk, hsub0⟩
          obtain ⟨S', hkS, hsub, hch⟩ := hK0 _ _ hkk hsub0
          -- what was reckoned ahead and is not done yet doesn't look at this slot
          have hlooks : ∀ j k' oj, (j, k') ∈ C → ops[j]? = some oj → ∀ t, t ∈ looks ops oj → o.dst ≠ some t := by
            intro j k' oj hj hoj t ht hd'
            have hdep := (slot_spec hsl hoj).2.2.2 i o t hio hd' |>.2 ht
            have hin := depB_in (D := fun s => s ∈ ([] : List Nat) ∨ ∃ k, (s, k) ∈ C) (fun j hj => by
              rcases hj with h | ⟨k', h⟩
              · cases h
              · exact topo_closed htopo ho j k' h) _ _ _ (topo_closed htopo ho j k' hj) hdep
            rcases hin with h | ⟨k', h⟩
            · cases h
            · exact hn2 k' h
          have hsched : Sched P n ops order (C ++ [(i, k)]) (Dn (listed.setIfInBounds i true)) B E' S' (updO f o.dst v) m' (a.put o.dst x) w' := by
            refine { sat := hs', sub := hsub, size := ?_, defers := ?_, others := ?_, doneRep := ?_, inC := ?_, eff := ?_, pend := ?_, closed := hcl' }
            · cases o.dst <;> simpa [Act.put] using hs.size
            · cases o.dst <;> exact hs.defers
            · intro t ht hno
              have hne := hno i o hio
              have : (a.put o.dst x).tmps.getD t undef = a.tmps.getD t undef := by
                cases hod : o.dst with
                | none => rfl
                | some d =>
                  have : d ≠ t := fun e => hne (by rw [hod, e])
                  simp [Act.put, Array.getD_eq_getD_getElem?, Array.getElem?_setIfInBounds, this]
              rw [this, updO_ne hne]
              exact (hs.others t ht hno).mono hle
            · intro j oj d hj hoj hd' hlt2
              rw [Dn_set hlt'] at hj
              rcases hj with rfl | hj
              · rw [hio] at hoj
                cases hoj
                rw [updO_at hd', hd']
                have : d < a.tmps.size := by rw [hs.size]; exact hlt2
                simpa [Act.put, Array.getD_eq_getD_getElem?, Array.getElem?_setIfInBounds, this] using hr
              · have hne : j ≠ i := fun e => hndD (e ▸ hj)
                have hod := hdst j oj d hne hoj hd'
                have : (a.put o.dst x).tmps.getD d undef = a.tmps.getD d undef := by
                  cases hod' : o.dst with
                  | none => rfl
                  | some d' =>
                    have : d' ≠ d := fun e => hod (by rw [hod', e])
                    simp [Act.put, Array.getD_eq_getD_getElem?, Array.getElem?_setIfInBounds, this]
                rw [this, updO_ne hod]
                exact (hs.doneRep j oj d hj hoj hd' hlt2).mono hle
            · intro j hj
              rw [Dn_set hlt'] at hj
              rcases hj with rfl | hj
              · exact ⟨_, List.mem_append_right _ List.mem_cons_self⟩
              · obtain ⟨k', hk'⟩ := hs.inC j hj
                exact ⟨k', List.mem_append_left _ hk'⟩
            · intro j k' hj hk'
              rw [Dn_set hlt']
              rcases List.mem_append.1 hj with hj | hj
              · exact .inr (hs.eff j k' hj hk')
              · simp at hj; exact .inl hj.1
            · intro j k' hj hnj
              rw [Dn_set hlt'] at hnj
              rcases List.mem_append.1 hj with hj | hj
              · obtain ⟨oj, hoj, hp⟩ := hs.pend j k' hj (fun h => hnj (.inr h))
                have hne : j ≠ i := fun e => hnj (.inl e)
                by_cases hk1 : (k == 1) = true
                · rw [hkS hk1] at hp
                  exact ⟨oj, hoj, hp.congr (List.Sublist.refl _) (fun t ht => updO_ne (hlooks j k' oj hj hoj t ht)) (fun d hd' => updO_ne (hdst j oj d hne hoj hd'))⟩
                · exfalso
                  have hdep := hst2 (by simpa using hk1) (j, k') hj
                  exact hnj (.inr (depB_in hs.closed _ _ _ hcl hdep))
              · simp at hj; exact absurd hj.1 (fun e => hnj (.inl e))
          obtain ⟨C2, todo2, f2, m2, ho2, hc2, hs2, hd2⟩ := Sched.ahead htopo hsl (C := C ++ [(i, k)]) (todo := r) (by simpa using ho) hch hsched
          exact ih _ C2 todo2 S' f2 m2 E' _ w' hl' (by omega) ho2 hc2 hd2 hs2
        cases hc with
        | free => exact absurd rfl hk
        | pass => exact absurd rfl hk
        | last hio' hal =>
          rw [hio] at hio'
          cases hio'
          -- all others are done
          have hothers : ∀ j oj, j ≠ i → ops[j]? = some oj → Dn listed j := by
            intro j oj hne hoj
            have hjl : j < ops.size := (Array.getElem?_eq_some_iff.1 hoj).1
            obtain ⟨k0, hk0⟩ := hmem j hjl
            rw [ho] at hk0
            have hjC : (j, k0) ∈ C := (List.mem_append.1 hk0).resolve_right (fun h => by simp at h; exact hne h.1)
            exact depB_in hs.closed _ _ _ hcl (hst2 (by rfl) (j, k0) hjC)
          have hF : SatF B E n (updO f o.dst .junk) m a w := ⟨hs.sat, hs.size, hs.defers, fun t ht => by
            by_cases hodt : o.dst = some t
            · rw [updO_at hodt]; exact .junk _
            · rw [updO_ne hodt]
              by_cases hex : ∃ (j : Nat) (oj : Oper), ops[j]? = some oj ∧ oj.dst = some t
              · obtain ⟨j, oj, hoj, hdj⟩ := hex
                have hne : j ≠ i := fun e => by subst e; rw [hio] at hoj; cases hoj; exact hodt hdj
                exact hs.doneRep j oj t (hothers j oj hne hoj) hoj hdj ht
              · exact hs.others t ht (fun j oj hoj hdj => hex ⟨j, oj, hoj, hdj⟩)⟩
          have hall : ∀ j, j < ops.size → Dn (listed.setIfInBounds i true) j := by
            intro j hj
            rw [Dn_set hlt']
            by_cases hji : j = i
            · exact .inl hji
            · exact .inr (hothers j ops[j] hji (by simp [hj]))
          have hready : Region.ready .any ops (listed.setIfInBounds i true) = [] := by
            apply List.eq_nil_iff_forall_not_mem.2
            intro j hj
            rw [mem_ready] at hj
            obtain ⟨h0', oj, hoj, _⟩ := hj
            have hjl : j < ops.size := (Array.getElem?_eq_some_iff.1 hoj).1
            have := hall j hjl
            unfold Dn at this
            have hjl' : j < (listed.setIfInBounds i true).size := by rw [hl']; exact hjl
            simp only [Array.getD_eq_getD_getElem?, Array.getElem?_eq_getElem hjl', Option.getD_some] at this h0'
            rw [this] at h0'
            cases h0'
          have fin : ∀ a' w', lift B n Q .normal a' w' → wpAny P .any ops (lift B n Q) fuel (listed.setIfInBounds i true) a' w' := by
            intro a' w' hq
            cases fuel with
            | zero => exact ⟨hready, hq⟩
            | succ fuel => exact ⟨fun _ => hq, fun j hj => by rw [hready] at hj; cases hj⟩
          have hw := hal B E w a hF
          unfold wpList at hw
          split at hw
          · rename_i hwant
            rw [if_pos hwant]
            exact hw.imp (Oper.wp_mono fun a' w' h => fin a' w' h) (fun h => h)
          · rename_i hwant
            rw [if_neg hwant]
            exact fin _ _ hw
        | eff K hio' hg hef hK =>
          rw [hio] at hio'
          cases hio'
          exact effect S K hg hef (fun f m h hx => ⟨S, fun _ => rfl, hx, hK f m h⟩)
        | bar S2 K hio' hg hef hS2 hK =>
          rw [hio] at hio'
          cases hio'
          exact effect [] K hg hef (fun f m h _ => ⟨S2 f m, fun h => by simp at h, hS2 f m h, hK f m h⟩)
  refine wp_region_any hm ?_
  have hs0 : Sched P n ops order [] (Dn (Array.replicate ops.size false)) B E S f m a { w with drawn := w.drawn + 1 } := by
    obtain ⟨h1, h2, h3, h4⟩ := hs
    have hnone : ∀ i, ¬ Dn (Array.replicate ops.size false) i := by
      intro i h
      unfold Dn at h
      simp [Array.getD_eq_getD_getElem?, Array.getElem?_replicate] at h
      split at h <;> simp at h
    exact { sat := ⟨h1.os, h1.tape, h1.output, h1.size, h1.keep, h1.le, h1.gro, h1.imm, fun p hp => (h1.obj p hp).mono (Env.le.refl E) (h1.lt p hp) (fun _ _ => rfl), h1.own, h1.sep, h1.lt, h1.nm⟩, sub := hS, size := h2, defers := h3, others := fun t ht _ => h4 t ht
            doneRep := fun i o d hd => absurd hd (hnone i), inC := fun i hd => absurd hd (hnone i), eff := (fun i k hi => by cases hi), pend := (fun i k hi => by cases hi), closed := fun j hj => absurd hj (hnone j) }
  obtain ⟨C2, todo2, f2, m2, ho2, hc2, hs2, hd2⟩ := Sched.ahead htopo hsl (C := []) (todo := order) rfl h hs0
  refine main ops.size _ C2 todo2 S f2 m2 E a _ (by simp) ?_ ho2 hc2 hd2 hs2
  unfold left
  exact Nat.le_trans (List.length_filter_le _ _) (by simp)
end
end Go.V
