/- Walking a chain. -/
import Derived.Test.YtflopnlnogjaoaaV10
set_option linter.unusedVariables false
set_option linter.unusedSimpArgs false
namespace Go.V
open Go Go.RowKit

variable {P : Program} {n : Nat} {f : F} {m : M} {Q : AQ} {ops : Array Oper} {rest : List Oper} {ty : TypeId} {d : Option Nat} {pos : String} {after : Array Edge} {i : Nat} {r : List (Nat × Nat)} {t : TypeId} {x y : Operand} {S : M}

theorem Chain.val {op : Op} {v : AV} (ho : ops[i]? = some ⟨d, op, ty, pos, after, none⟩) (h : AOp P S op ty (evF f) v) (k : Chain P n ops Q S r (updO f d v) m) : Chain P n ops Q S ((i, 0) :: r) f m :=
  Chain.free (o := ⟨d, op, ty, pos, after, none⟩) ho rfl h k
theorem Chain.go {op : Op} {v : AV} (ho : ops[i]? = some ⟨d, op, ty, pos, after, none⟩) (h : aEval P op (evF f) = some v) (k : Chain P n ops Q S r (updO f d v) m) : Chain P n ops Q S ((i, 0) :: r) f m := Chain.val ho (op_eval h) k
theorem Chain.add {yt : TypeId} {a b : Int} (ho : ops[i]? = some ⟨d, .binOp .add t x y yt, ty, pos, after, none⟩) (hx : evF f x = .int .i64 a) (hy : evF f y = .int .i64 b) (h1 : -9223372036854775808 ≤ a + b) (h2 : a + b ≤ 9223372036854775807) (k : Chain P n ops Q S r (updO f d (.int .i64 (a + b))) m) : Chain P n ops Q S ((i, 0) :: r) f m := Chain.val ho (op_add_i64 hx hy h1 h2) k
theorem Chain.sub {yt : TypeId} {a b : Int} (ho : ops[i]? = some ⟨d, .binOp .sub t x y yt, ty, pos, after, none⟩) (hx : evF f x = .int .i64 a) (hy : evF f y = .int .i64 b) (h1 : -9223372036854775808 ≤ a - b) (h2 : a - b ≤ 9223372036854775807) (k : Chain P n ops Q S r (updO f d (.int .i64 (a - b))) m) : Chain P n ops Q S ((i, 0) :: r) f m := Chain.val ho (op_sub_i64 hx hy h1 h2) k
theorem Chain.mv {v : AV} (ho : ops[i]? = some ⟨d, .move x, ty, pos, after, none⟩) (h : evF f x = v) (k : Chain P n ops Q S r (updO f d v) m) : Chain P n ops Q S ((i, 0) :: r) f m := Chain.val ho (op_move h) k
theorem Chain.as {v : AV} (ho : ops[i]? = some ⟨d, .assign x, ty, pos, after, none⟩) (h : evF f x = v) (k : Chain P n ops Q S r (updO f d v) m) : Chain P n ops Q S ((i, 0) :: r) f m := Chain.val ho (op_assign h) k
theorem Chain.fp {j o ft sz g off : Nat} {agg : Bool} [FieldT P t j o ft sz agg] (ho : ops[i]? = some ⟨d, .fieldAddr t x j, ty, pos, after, none⟩) (hx : evF f x = .ptr g off) (k : Chain P n ops Q S r (updO f d (.ptr g (off + o))) m) : Chain P n ops Q S ((i, 0) :: r) f m := Chain.val ho (op_field_ptr hx) k
theorem Chain.fv {j o ft sz g l z off : Nat} {agg : Bool} [FieldT P t j o ft sz agg] (ho : ops[i]? = some ⟨d, .fieldAddr t x j, ty, pos, after, none⟩) (hx : evF f x = .vptr g l z off) (k : Chain P n ops Q S r (updO f d (.vptr g l z (off + o))) m) : Chain P n ops Q S ((i, 0) :: r) f m := Chain.val ho (op_field_vptr hx) k
theorem Chain.fi {j o ft sz c : Nat} {cells cells' : List AV} {agg : Bool} [FieldT P t j o ft sz agg] (ho : ops[i]? = some ⟨d, .fieldAddr t x j, ty, pos, after, none⟩) (hx : evF f x = .iptr c cells) (hc : cells.drop o = cells') (k : Chain P n ops Q S r (updO f d (.iptr c cells')) m) : Chain P n ops Q S ((i, 0) :: r) f m := Chain.val ho (op_field_iptr hx hc) k
theorem Chain.ld {g off T : Nat} {cs rs : List AV} {v : AV} [AggT P t false] [h : Has S g (.blk T cs)] (ho : ops[i]? = some ⟨d, .load t x, ty, pos, after, none⟩) (hx : evF f x = .ptr g off) (hc : cs.drop off = v :: rs) (k : Chain P n ops Q S r (updO f d v) m) : Chain P n ops Q S ((i, 0) :: r) f m := Chain.val ho (op_load hx (ld_one (seg_ptr h.out hc))) k
theorem Chain.lda {g off T sz bytes : Nat} {cs rs : List AV} [AggT P t true] [Sz P t sz bytes] [h : Has S g (.blk T cs)] (ho : ops[i]? = some ⟨d, .load t x, ty, pos, after, none⟩) (hx : evF f x = .ptr g off) (hc : (cs.drop off).take sz = rs) (hl : sz ≤ (cs.drop off).length) (k : Chain P n ops Q S r (updO f d (.agg rs)) m) : Chain P n ops Q S ((i, 0) :: r) f m := Chain.val ho (op_load hx (ld_agg (seg_ptr h.out rfl) hc hl)) k
theorem Chain.ldi {c : Nat} {rs : List AV} {v : AV} [AggT P t false] (ho : ops[i]? = some ⟨d, .load t x, ty, pos, after, none⟩) (hx : evF f x = .iptr c (v :: rs)) (k : Chain P n ops Q S r (updO f d v) m) : Chain P n ops Q S ((i, 0) :: r) f m := Chain.val ho (op_load hx (ld_one seg_iptr)) k
theorem Chain.ldia {c sz bytes : Nat} {cs rs : List AV} [AggT P t true] [Sz P t sz bytes] (ho : ops[i]? = some ⟨d, .load t x, ty, pos, after, none⟩) (hx : evF f x = .iptr c cs) (hc : cs.take sz = rs) (hl : sz ≤ cs.length) (k : Chain P n ops Q S r (updO f d (.agg rs)) m) : Chain P n ops Q S ((i, 0) :: r) f m := Chain.val ho (op_load hx (ld_agg seg_iptr hc hl)) k
theorem Chain.ldv {g l z off T : Nat} {rows : List (List AV)} {rw cs : List AV} {v : AV} [AggT P t false] [h : Has S g (.vec T z rows)] (ho : ops[i]? = some ⟨d, .load t x, ty, pos, after, none⟩) (hx : evF f x = .vptr g l z off) (hi : rows[l]? = some rw) (hc : rw.drop off = v :: cs) (k : Chain P n ops Q S r (updO f d v) m) : Chain P n ops Q S ((i, 0) :: r) f m := Chain.val ho (op_load hx (ld_one (seg_vptr h.out hi hc))) k
theorem Chain.ldva {g l z off T sz bytes : Nat} {rows : List (List AV)} {rw cs : List AV} [AggT P t true] [Sz P t sz bytes] [h : Has S g (.vec T z rows)] (ho : ops[i]? = some ⟨d, .load t x, ty, pos, after, none⟩) (hx : evF f x = .vptr g l z off) (hi : rows[l]? = some rw) (hc : (rw.drop off).take sz = cs) (hl : sz ≤ (rw.drop off).length) (k : Chain P n ops Q S r (updO f d (.agg cs)) m) : Chain P n ops Q S ((i, 0) :: r) f m := Chain.val ho (op_load hx (ld_agg (seg_vptr h.out hi rfl) hc hl)) k
theorem Chain.ix {e sz bytes c : Nat} {rows : List (List AV)} {rw : List AV} {k : IntKind} {j : Int} [SliceT P t e] [Sz P e sz bytes] (ho : ops[i]? = some ⟨d, .indexAddr t x y, ty, pos, after, none⟩) (hx : evF f x = .sl c sz rows) (hy : evF f y = .int k j) (h0 : 0 ≤ j) (hi : rows[j.toNat]? = some rw) (kk : Chain P n ops Q S r (updO f d (.iptr c rw)) m) : Chain P n ops Q S ((i, 0) :: r) f m := Chain.val ho (op_index_sl hx hy h0 hi) kk
theorem Chain.ixv {e sz bytes g T : Nat} {rows : List (List AV)} {k : IntKind} {j : Int} [SliceT P t e] [Sz P e sz bytes] [h : Has S g (.vec T sz rows)] (ho : ops[i]? = some ⟨d, .indexAddr t x y, ty, pos, after, none⟩) (hx : evF f x = .vec g) (hy : evF f y = .int k j) (h0 : 0 ≤ j) (hi : j.toNat < rows.length) (kk : Chain P n ops Q S r (updO f d (.vptr g j.toNat sz 0)) m) : Chain P n ops Q S ((i, 0) :: r) f m := Chain.val ho (op_index_vec hx h.out hy h0 hi) kk
theorem Chain.len {e c sz : Nat} {rows : List (List AV)} [SliceT P t e] (ho : ops[i]? = some ⟨d, .call { callee := .builtin .len, args := #[x], argTypes := #[t] }, ty, pos, after, none⟩) (hx : evF f x = .sl c sz rows) (k : Chain P n ops Q S r (updO f d (.int .i64 (rows.length : Int))) m) : Chain P n ops Q S ((i, 0) :: r) f m := Chain.val ho (op_len_sl hx) k
theorem Chain.lenNil {e : Nat} [SliceT P t e] (ho : ops[i]? = some ⟨d, .call { callee := .builtin .len, args := #[x], argTypes := #[t] }, ty, pos, after, none⟩) (hx : evF f x = .nilsl) (k : Chain P n ops Q S r (updO f d (.int .i64 0)) m) : Chain P n ops Q S ((i, 0) :: r) f m := Chain.val ho (op_len_nil hx) k
theorem Chain.lenStr {s : List UInt8} [StrT P t] (ho : ops[i]? = some ⟨d, .call { callee := .builtin .len, args := #[x], argTypes := #[t] }, ty, pos, after, none⟩) (hx : evF f x = .str s) (k : Chain P n ops Q S r (updO f d (.int .i64 (s.length : Int))) m) : Chain P n ops Q S ((i, 0) :: r) f m := Chain.val ho (op_len_str hx) k
theorem Chain.lenv {e g T sz : Nat} {rows : List (List AV)} [SliceT P t e] [h : Has S g (.vec T sz rows)] (ho : ops[i]? = some ⟨d, .call { callee := .builtin .len, args := #[x], argTypes := #[t] }, ty, pos, after, none⟩) (hx : evF f x = .vec g) (k : Chain P n ops Q S r (updO f d (.int .i64 (rows.length : Int))) m) : Chain P n ops Q S ((i, 0) :: r) f m := Chain.val ho (op_len_vec hx h.out) k
/-- A guard that is decided. -/
theorem Chain.guardY {op : Op} {j d0 : Nat} {want : Bool} {v : AV} (ho : ops[i]? = some ⟨d, op, ty, pos, after, some (j, want)⟩) (hd : (ops[j]?).bind (·.dst) = some d0) (hf : f d0 = .bool want) (h : AOp P S op ty (evF f) v) (k : Chain P n ops Q S r (updO f d v) m) : Chain P n ops Q S ((i, 0) :: r) f m :=
  Chain.free (o := ⟨d, op, ty, pos, after, some (j, want)⟩) ho ⟨d0, hd, .inl ⟨want, hf, by simp⟩⟩ h k
theorem Chain.guardN {op : Op} {j d0 : Nat} {want b : Bool} (ho : ops[i]? = some ⟨d, op, ty, pos, after, some (j, want)⟩) (hd : (ops[j]?).bind (·.dst) = some d0) (hf : f d0 = .bool b) (hb : b = (!want)) (k : Chain P n ops Q S r (updO f d .undef) m) : Chain P n ops Q S ((i, 0) :: r) f m :=
  Chain.pass (o := ⟨d, op, ty, pos, after, some (j, want)⟩) ho ⟨d0, hd, .inl ⟨b, hf, by subst hb; cases want <;> rfl⟩⟩ k
theorem Chain.guardU {op : Op} {j d0 : Nat} {want : Bool} (ho : ops[i]? = some ⟨d, op, ty, pos, after, some (j, want)⟩) (hd : (ops[j]?).bind (·.dst) = some d0) (hf : f d0 = .undef) (k : Chain P n ops Q S r (updO f d .undef) m) : Chain P n ops Q S ((i, 0) :: r) f m :=
  Chain.pass (o := ⟨d, op, ty, pos, after, some (j, want)⟩) ho ⟨d0, hd, .inr ⟨hf, rfl⟩⟩ k
/-- The guard's two cases. -/
theorem Chain.split {todo : List (Nat × Nat)} {d0 : Nat} {b : Bool} (hf : f d0 = .bool b) (h1 : b = true → Chain P n ops Q S todo (upd f d0 (.bool true)) m) (h2 : b = false → Chain P n ops Q S todo (upd f d0 (.bool false)) m) : Chain P n ops Q S todo f m := by
  have : upd f d0 (.bool b) = f := by
    funext t
    by_cases h : t = d0
    · rw [h, upd_at, hf]
    · rw [upd_ne f _ h]
  cases b with
  | true => have := h1 rfl; rwa [‹upd f d0 _ = f›] at this
  | false => have := h2 rfl; rwa [‹upd f d0 _ = f›] at this
theorem Oper.upon_put {o : Oper} {a : Act} {next next' : Act → World → Prop} {QQ QQ' : Exit → Act → World → Prop} {r : Result Next} (h : o.upon P a next QQ r)
    (hn : ∀ a' w', next a' w' → (a'.defers = a.defers → ∃ x, a' = a.put o.dst x) → next' a' w') (hq : ∀ c a' w', QQ (.panic c) a' w' → QQ' (.panic c) a' w') (hl : LetsOut QQ → LetsOut QQ') : o.upon P a next' QQ' r := by
  cases r with
  | ok x w' =>
    cases x with
    | value v => exact hn _ _ h (fun _ => ⟨_, rfl⟩)
    | skip => exact hn _ _ h (fun _ => ⟨_, rfl⟩)
    | defer d =>
      refine hn _ _ h (fun hd => ?_)
      exfalso
      have : (d :: a.defers) = a.defers := by cases hod : o.dst <;> (rw [hod] at hd; exact hd)
      simp at this
    | enter f args =>
      refine Calls.mono (show Calls P f args w' _ from h) (fun e w'' he => ?_)
      cases e with
      | returned v => exact hn _ _ he (fun _ => ⟨_, rfl⟩)
      | panicked c => exact hq _ _ _ he
      | outgrown => exact hl he
    | row r args => exact Rows.mono (show Rows P r args w' _ from h) (fun v w'' he => hn _ _ he (fun _ => ⟨_, rfl⟩))
    | _ => exact (show False from h).elim
  | halt x w' =>
    cases x <;> first | exact hq _ _ _ h | exact h
/-- An effect by the rule for lists. -/
theorem EF.of_AL {o : Oper} {K : AV → M → Prop} (hg : o.guard = none) (h : ∀ f0, (∀ x, x ∈ o.op.operands → evF f0 x = evF f x) → AL P n ops (fun e f' m' => e = .normal ∧ ∃ v, f' = updO f0 o.dst v ∧ K v m' ∧ ∃ x, m'.Perm (S ++ x)) [o] f0 m) (hdn : ∀ d, o.dst = some d → d < n) :
    EF P n S o f m (fun f' m' => ∃ v, f' = updO f o.dst v ∧ K v m') := by
  intro B E w a hs hsz hdf hops Q'
  classical
  let f0 : F := fun t => if Operand.tmp t ∈ o.op.operands then f t else .junk
  have hf0 : ∀ x, x ∈ o.op.operands → evF f0 x = evF f x := by
    intro x hx
    cases x with
    | tmp t => show f0 t = f t; simp only [f0]; rw [if_pos hx]
    | const => rfl
    | global => rfl
    | func => rfl
  have hF : SatF (baseOf E m w) E n f0 m a w := ⟨hs.enter (ms := m) (mr := []) (by simp), hsz, hdf, fun t ht => by
    simp only [f0]
    split
    · rename_i ho; exact hops _ ho
    · exact .junk _⟩
  have hw := h f0 hf0 _ E w a hF
  unfold wpList at hw
  rw [if_pos (show Region.wanted o (yielded ops a.tmps) = true by unfold Region.wanted; rw [hg])] at hw
  rcases hw with hw | ⟨_, a', w', hl⟩
  · unfold Oper.wp at hw ⊢
    refine Oper.upon_put hw (fun a' w' hn hp => ?_) (fun e a' w' hq => ?_) (fun ⟨_, _, h⟩ => h.elim)
    · unfold wpList at hn
      obtain ⟨E', f', m', hs', _, v, rfl, hk, x, hx⟩ := hn
      obtain ⟨u, rfl⟩ := hp (by rw [hs'.2.2.1, hdf])
      have hb := hs.back (ms := m) (mr := []) (by simp) hs'.1
      simp only [List.append_nil] at hb
      cases hd : o.dst with
      | none => exact ⟨E', .junk, u, m', hs'.1.le, hb, .junk _, rfl, ⟨v, rfl, hk⟩, x, hx⟩
      | some d =>
        have hlt := hdn d hd
        have hr := hs'.2.2.2 d hlt
        rw [updO_at hd, hd] at hr
        have : d < a.tmps.size := by rw [hsz]; exact hlt
        have hr' : Rep E' v u := by simpa [Act.put, Array.getD_eq_getD_getElem?, Array.getElem?_setIfInBounds, this] using hr
        exact ⟨E', v, u, m', hs'.1.le, hb, hr', rfl, ⟨v, rfl, hk⟩, x, hx⟩
    · obtain ⟨E', f', m', v, u, _, _, hs', h1, _⟩ := hq; cases h1
  · exact hl.elim
theorem wpList_mono {QQ QQ' : Exit → Act → World → Prop} (hq : ∀ e a w, QQ e a w → QQ' e a w) : ∀ (l : List Oper) (a : Act) (w : World), wpList P ops QQ l a w → wpList P ops QQ' l a w
  | [], a, w, h => hq _ _ _ h
  | o :: l, a, w, h => by
    unfold wpList at h ⊢
    split
    · rename_i hw
      rw [if_pos hw] at h
      rcases h with h | ⟨h1, a', w', h2⟩
      · exact .inl (Oper.upon_put h (fun a' w' hn _ => wpList_mono hq l a' w' hn) (fun c a' w' => hq _ _ _) (fun ⟨a', w', h⟩ => ⟨a', w', hq _ _ _ h⟩))
      · exact .inr ⟨h1, a', w', hq _ _ _ h2⟩
    · rename_i hw
      rw [if_neg hw] at h
      exact wpList_mono hq l _ _ h
theorem AL.mono {Q' : AQ} {l : List Oper} (hq : ∀ e f m, Q e f m → Q' e f m) (h : AL P n ops Q l f m) : AL P n ops Q' l f m :=
  fun B E w a hs => wpList_mono (fun e a w q => lift_mono hq e a w q) l a w (h B E w a hs)
def dstIn (n : Nat) (o : Oper) : Bool := match o.dst with | some d => Nat.blt d n | none => true
theorem dstIn_spec {o : Oper} (h : dstIn n o = true) : ∀ d, o.dst = some d → d < n := by
  intro d hd
  unfold dstIn at h
  rw [hd] at h
  simpa using h
/-- An effect that leaves S as it is. -/
theorem Chain.al {o : Oper} {K : AV → M → Prop} (ho : ops[i]? = some o) (hg : o.guard = none) (hd : dstIn n o = true) (h : ∀ f0, (∀ x, x ∈ o.op.operands → evF f0 x = evF f x) → AL P n ops (fun e f' m' => e = .normal ∧ ∃ v, f' = updO f0 o.dst v ∧ K v m' ∧ ∃ x, m'.Perm (S ++ x)) [o] f0 m)
    (hK : ∀ v m', K v m' → Chain P n ops Q S r (updO f o.dst v) m') : Chain P n ops Q S ((i, 1) :: r) f m :=
  Chain.eff _ ho (by unfold wantedF; rw [hg]) (EF.of_AL hg h (dstIn_spec hd)) (fun f' m' ⟨v, h1, h2⟩ => by subst h1; exact hK v m' h2)
/-- An effect behind which S is another. -/
theorem Chain.barAl {o : Oper} {K : AV → M → Prop} (ho : ops[i]? = some o) (hg : o.guard = none) (hd : dstIn n o = true) (h : ∀ f0, (∀ x, x ∈ o.op.operands → evF f0 x = evF f x) → AL P n ops (fun e f' m' => e = .normal ∧ ∃ v, f' = updO f0 o.dst v ∧ K v m') [o] f0 m)
    (hK : ∀ v m', K v m' → ∃ S', (∃ x, m'.Perm (S' ++ x)) ∧ Chain P n ops Q S' r (updO f o.dst v) m') : Chain P n ops Q S ((i, 2) :: r) f m :=
  by
    classical
    have hK' : ∀ f' m', (∃ v, f' = updO f o.dst v ∧ K v m') → ∃ S', (∃ x, m'.Perm (S' ++ x)) ∧ Chain P n ops Q S' r f' m' := fun f' m' ⟨v, h1, h2⟩ => by subst h1; exact hK v m' h2
    refine Chain.bar (fun f' m' => if h : ∃ S', (∃ x, m'.Perm (S' ++ x)) ∧ Chain P n ops Q S' r f' m' then Classical.choose h else []) _ ho (by unfold wantedF; rw [hg]) (EF.of_AL hg (fun f0 h0 => AL.mono (fun e f' m' ⟨h1, v, h2, h3⟩ => ⟨h1, v, h2, h3, m', by simp⟩) (h f0 h0)) (dstIn_spec hd)) (fun f' m' h => ?_) (fun f' m' h => ?_)
    · rw [dif_pos (hK' f' m' h)]; exact (Classical.choose_spec (hK' f' m' h)).1
    · rw [dif_pos (hK' f' m' h)]; exact (Classical.choose_spec (hK' f' m' h)).2
/-- A call. -/
theorem Chain.clm {fid : FuncId} {fx : Operand} {xs : Array Operand} {ts : Array TypeId} {af ac args : List AV} {ms mr : M} {R : AOut → M → Prop} [FnT P fid] (ho : ops[i]? = some ⟨d, .call { callee := .value fx, args := xs, argTypes := ts }, ty, pos, after, none⟩) (hm : m.Perm (ms ++ mr)) (hS : ∃ y, mr.Perm (S ++ y)) (hc : ASpec P fid args ms R)
    (hx : evF f fx = .fn (.func fid) af ac) (ha : af ++ xs.toList.map (evF f) ++ ac = args) (hin : opsIn n (.call { callee := .value fx, args := xs, argTypes := ts }) = true) (hd : dstIn n ⟨d, .call { callee := .value fx, args := xs, argTypes := ts }, ty, pos, after, none⟩ = true) (hp : ∀ v m', ¬ R (.pan v) m') (k : ∀ v m', R (.ret v) m' → Chain P n ops Q S r (updO f d v) (m' ++ mr)) : Chain P n ops Q S ((i, 1) :: r) f m := by
  refine Chain.al (o := ⟨d, .call { callee := .value fx, args := xs, argTypes := ts }, ty, pos, after, none⟩) (K := fun v m'' => ∃ m', R (.ret v) m' ∧ m'' = m' ++ mr) ho rfl hd (fun f0 h0 => ?_) (fun v m'' ⟨m', h1, h2⟩ => by subst h2; exact k v m' h1)
  have hfx : evF f0 fx = evF f fx := h0 fx (by simp [Op.operands, Call.operands])
  have hxs : xs.toList.map (evF f0) = xs.toList.map (evF f) := List.map_congr_left (fun x hx => h0 x (by simp [Op.operands, Call.operands]; exact .inr (by simpa using hx)))
  refine AL.cl (hfx.trans hx) (by rw [hxs]; exact ha) hin hm hc (fun out m' hR => ?_)
  cases out with
  | pan v => exact (hp v m' hR).elim
  | ret v =>
    obtain ⟨y, hy⟩ := hS
    exact AL.nil ⟨rfl, v, rfl, ⟨m', hR, rfl⟩, m' ++ y, (hy.append_left m').trans (by rw [← List.append_assoc, ← List.append_assoc]; exact List.perm_append_comm.append_right _)⟩
theorem Chain.cl {fid : FuncId} {fx : Operand} {xs : Array Operand} {ts : Array TypeId} {af ac args : List AV} {R : AOut → M → Prop} [FnT P fid] (hS : ∃ y, m.Perm (S ++ y)) (ho : ops[i]? = some ⟨d, .call { callee := .value fx, args := xs, argTypes := ts }, ty, pos, after, none⟩) (hc : ASpec P fid args [] R)
    (hx : evF f fx = .fn (.func fid) af ac) (ha : af ++ xs.toList.map (evF f) ++ ac = args) (hin : opsIn n (.call { callee := .value fx, args := xs, argTypes := ts }) = true) (hd : dstIn n ⟨d, .call { callee := .value fx, args := xs, argTypes := ts }, ty, pos, after, none⟩ = true) (hp : ∀ v m', ¬ R (.pan v) m') (k : ∀ v m', R (.ret v) m' → Chain P n ops Q S r (updO f d v) (m' ++ m)) : Chain P n ops Q S ((i, 1) :: r) f m :=
  Chain.clm (ms := []) ho (by simp) hS hc hx ha hin hd hp k
theorem Chain.cl0 {fid : FuncId} {fx : Operand} {xs : Array Operand} {ts : Array TypeId} {af ac args : List AV} {v : AV} [FnT P fid] (hS : ∃ y, m.Perm (S ++ y)) (ho : ops[i]? = some ⟨d, .call { callee := .value fx, args := xs, argTypes := ts }, ty, pos, after, none⟩) (hc : ASpec P fid args [] (fun o m => o = .ret v ∧ m = []))
    (hx : evF f fx = .fn (.func fid) af ac) (ha : af ++ xs.toList.map (evF f) ++ ac = args) (hin : opsIn n (.call { callee := .value fx, args := xs, argTypes := ts }) = true) (hd : dstIn n ⟨d, .call { callee := .value fx, args := xs, argTypes := ts }, ty, pos, after, none⟩ = true) (k : Chain P n ops Q S r (updO f d v) m) : Chain P n ops Q S ((i, 1) :: r) f m :=
  Chain.cl hS ho hc hx ha hin hd (fun v m' h => by cases h.1) (fun v' m' h => by obtain ⟨h1, h2⟩ := h; cases h1; subst h2; exact k)
/-- nil serves as an owned slice. -/
theorem ASpec.vecOfNil {fid : FuncId} {args : List AV} {ms : M} {T sz : Nat} {rows : List (List AV)} (h : ASpec P fid args ms (fun o m => (∃ g, o = .ret (.vec g) ∧ m = [(g, .vec T sz rows)]) ∨ (rows = [] ∧ o = .ret .nilsl ∧ m = []))) :
    ASpec P fid args ms (fun o m => ∃ g, o = .ret (.vec g) ∧ m = [(g, .vec T sz rows)]) :=
  fun E w vs hs hv => (h E w vs hs hv).mono fun e w' ⟨E', m', out, h1, h2, h3⟩ => by
    rcases h3 with h3 | ⟨h3, h4, h5⟩
    · exact ⟨E', m', out, h1, h2, h3⟩
    · subst h3; subst h4; subst h5
      have hnew := h1.new (old := []) (mr := []) (w' := w') (by simp) (.slice none 0 0) (.vec T sz []) rfl rfl rfl (Nat.le_refl _) (fun _ _ _ => rfl) (fun b hb => by cases hb) ⟨(fun r hr => by cases hr), .inl ⟨Env.bind_θ _ _, rfl⟩⟩
      cases e with
      | returned x =>
        refine ⟨_, _, .ret (.vec E'.n), hnew, ?_, E'.n, rfl, rfl⟩
        have h2' : Rep E' .nilsl x := h2
        cases h2'
        have := Rep.vec (E := E'.bind (.slice none 0 0)) E'.n (Nat.lt_succ_self _) (by rw [Env.bind_θ]; rfl)
        rwa [Env.bind_θ] at this
      | panicked => exact h2.elim
      | outgrown => exact h2.elim
/-- An owned slice that is answered is frozen, in whatever colour. -/
theorem ASpec.freezeRet {fid : FuncId} {args : List AV} {T sz : Nat} {rows : List (List AV)} (h : ASpec P fid args [] (fun o m => ∃ g, o = .ret (.vec g) ∧ m = [(g, .vec T sz rows)])) (c : Nat) : ASpec P fid args [] (fun o m => o = .ret (.sl c sz rows) ∧ m = []) :=
  fun E w vs hs hv => (h E w vs hs hv).mono fun e w' ⟨E', m', out, h1, h2, g, h3, h4⟩ => by
    subst h3; subst h4
    obtain ⟨E2, hle, hs2, hr⟩ := h1.freeze (.refl _) c
    cases e with
    | returned x =>
      refine ⟨E2, [], _, hs2, ?_, rfl, rfl⟩
      have h2' : Rep E' (.vec g) x := h2
      cases h2'
      exact hr
    | panicked => exact h2.elim
    | outgrown => exact h2.elim

end Go.V
