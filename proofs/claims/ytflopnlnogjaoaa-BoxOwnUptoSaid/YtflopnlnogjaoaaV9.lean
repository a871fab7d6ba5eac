/- Rules in the form in which a walk calls them. -/
import Derived.Test.YtflopnlnogjaoaaV8
set_option linter.unusedVariables false
set_option linter.unusedSimpArgs false
namespace Go.V
open Go Go.RowKit

variable {P : Program} {n : Nat} {f : F} {m : M} {Q : AQ} {ops : Array Oper} {rest : List Oper} {ev : Operand → AV} {ty : TypeId}

theorem AW.seq' {x y : Code} (h : AW P n x (thenQ (AW P n y Q) Q) f m) : AW P n (.seq x y) Q f m := by
  intro B E w a hs
  refine wp_seq (Code.wp_mono (fun e a w q => ?_) (h B E w a hs))
  cases e with
  | normal => obtain ⟨E, f, m, h1, h2⟩ := q; exact h2 B E w a h1
  | ret => exact q
  | exit => exact q
  | goto => exact q
  | panic c => exact q
  | outgrown => exact q
theorem thenQ_n {K : F → M → Prop} (h : K f m) : thenQ K Q .normal f m := h
theorem thenQ_r {K : F → M → Prop} (h : Q .ret f m) : thenQ K Q .ret f m := h
theorem thenQ_e {K : F → M → Prop} {i : Nat} (h : Q (.exit i) f m) : thenQ K Q (.exit i) f m := h
theorem thenQ_p {K : F → M → Prop} {v : AV} (h : Q (.panic v) f m) : thenQ K Q (.panic v) f m := h
theorem blockQ_n {id : Nat} (h : Q .normal f m) : blockQ id Q .normal f m := h
theorem blockQ_r {id : Nat} (h : Q .ret f m) : blockQ id Q .ret f m := h
theorem blockQ_p {id : Nat} {v : AV} (h : Q (.panic v) f m) : blockQ id Q (.panic v) f m := h

/-! ## What hangs on no memory -/
def aInt (bo : BinOp) (k : IntKind) (a b : Int) : Option AV :=
  match bo with
  | .add => some (.int k (k.wrap (a + b)))
  | .sub => some (.int k (k.wrap (a - b)))
  | .mul => some (.int k (k.wrap (a * b)))
  | .eql => some (.bool (a == b))
  | .neq => some (.bool (a != b))
  | .lss => some (.bool (decide (a < b)))
  | .leq => some (.bool (decide (a ≤ b)))
  | .gtr => some (.bool (decide (b < a)))
  | .geq => some (.bool (decide (b ≤ a)))
  | .and => some (.int k (k.wrap (BitVec.ofInt k.bits a &&& BitVec.ofInt k.bits b).toNat))
  | .or => some (.int k (k.wrap (BitVec.ofInt k.bits a ||| BitVec.ofInt k.bits b).toNat))
  | .xor => some (.int k (k.wrap (BitVec.ofInt k.bits a ^^^ BitVec.ofInt k.bits b).toNat))
  | .andNot => some (.int k (k.wrap (BitVec.ofInt k.bits a &&& ~~~(BitVec.ofInt k.bits b)).toNat))
  | .quo => if b = 0 then none else some (.int k (k.wrap (a.tdiv b)))
  | .rem => if b = 0 then none else some (.int k (a.tmod b))
  | _ => none
def aShift (bo : BinOp) (k : IntKind) (a b : Int) : Option AV :=
  if b < 0 then none
  else match bo with
  | .shl => some (.int k (k.wrap (a * 2 ^ (min b.toNat k.bits))))
  | .shr => some (.int k (a.fdiv (2 ^ (min b.toNat k.bits))))
  | _ => none
/-- A value, looked at. -/
def force : AV → Option AV
  | .bool b => some (.bool b)
  | .int k n => some (.int k n)
  | .str s => some (.str s)
  | .ptr g off => some (.ptr g off)
  | .nilptr => some .nilptr
  | .iptr c cells => some (.iptr c cells)
  | .sl c sz rows => some (.sl c sz rows)
  | .nilsl => some .nilsl
  | .vec g => some (.vec g)
  | .vptr g i sz off => some (.vptr g i sz off)
  | .vsub g lo hi sz => some (.vsub g lo hi sz)
  | .map g => some (.map g)
  | .nilmap => some .nilmap
  | .fn f a c => some (.fn f a c)
  | .nilfn => some .nilfn
  | .iface t v => some (.iface t v)
  | .nilif => some .nilif
  | .agg cs => some (.agg cs)
  | .tuple vs => some (.tuple vs)
  | .junk => some .junk
  | .undef => some .undef
theorem force_eq {a v : AV} (h : force a = some v) : a = v := by cases a <;> simp [force] at h <;> exact h
/-- Cells, looked at. -/
def forceL : List AV → Option (List AV)
  | [] => some []
  | a :: r => match force a, forceL r with
    | some a', some r' => some (a' :: r')
    | _, _ => none
theorem forceL_eq : ∀ {l l' : List AV}, forceL l = some l' → l = l'
  | [], l', h => by cases h; rfl
  | a :: r, l', h => by
    simp only [forceL] at h
    split at h
    · rename_i a' r' ha hr
      cases h
      rw [force_eq ha, forceL_eq hr]
    · cases h
def aEval (P : Program) (op : Op) (ev : Operand → AV) : Option AV :=
  match op with
  | .move x | .assign x => force (ev x)
  | .pick c x y => match ev c with
    | .bool true => force (ev x)
    | .bool false => force (ev y)
    | _ => none
  | .binOp .shl _ x y _ => match ev x, ev y with
    | .int k a, .int _ b => aShift .shl k a b
    | _, _ => none
  | .binOp .shr _ x y _ => match ev x, ev y with
    | .int k a, .int _ b => aShift .shr k a b
    | _, _ => none
  | .binOp bo _ x y _ => match ev x, ev y with
    | .int k a, .int k' b => if k = k' then aInt bo k a b else none
    | .str a, .str b => match strOp bo a b with
      | some r => some (.bool r)
      | none => none
    | _, _ => none
  | .unOp .not _ x => match ev x with
    | .bool b => some (.bool (!b))
    | _ => none
  | .unOp .neg _ x => match ev x with
    | .int k a => some (.int k (k.wrap (0 - a)))
    | _ => none
  | .extract x i => match ev x with
    | .tuple vs => match vs[i]? with
      | some v => force v
      | none => none
    | _ => none
  | .makeFunc fn fs cs => match forceL (fs.toList.map ev), forceL (cs.toList.map ev) with
    | some a, some c => some (.fn fn a c)
    | _, _ => none
  | .nilCheck x => match ev x with
    | .ptr g o => some (.ptr g o)
    | .vptr g i s o => some (.vptr g i s o)
    | .iptr c cs => some (.iptr c cs)
    | _ => none
  | _ => none
theorem run_intBits (bo : BinOp) (t : TypeId) (k : IntKind) (a b : Int) (r : AV) (h : aInt bo k a b = some r) : ∃ x, (∀ w, (binOp bo t (.int k a) (.int k b)).run P w = .ok x w) ∧ ∀ E, Rep E r x := by
  have hq : ∀ h0 : b ≠ 0, (bo = .quo ∨ bo = .rem) → ∃ x, (∀ w, (binOp bo t (.int k a) (.int k b)).run P w = .ok x w) ∧ ∀ E, Rep E r x := by
    intro h0 hbo
    rcases hbo with rfl | rfl
    · simp only [aInt, if_neg h0, Option.some.injEq] at h; subst h; exact ⟨_, fun w => by simp [binOp_quo, Op.intDiv, h0], fun E => .int _ _⟩
    · simp only [aInt, if_neg h0, Option.some.injEq] at h; subst h; exact ⟨_, fun w => by simp [binOp_rem, Op.intDiv, h0], fun E => .int _ _⟩
  by_cases hbo : bo = .quo ∨ bo = .rem
  · refine hq (fun h0 => ?_) hbo
    subst h0
    rcases hbo with rfl | rfl <;> simp [aInt] at h
  cases bo <;> first | (exact absurd (.inl rfl) hbo) | (exact absurd (.inr rfl) hbo) | skip
  all_goals (simp only [aInt, Option.some.injEq, reduceCtorEq] at h; try subst h)
  case add => exact ⟨_, fun w => by simp [binOp_add, Op.intArith], fun E => .int _ _⟩
  case sub => exact ⟨_, fun w => by simp [binOp_sub, Op.intArith], fun E => .int _ _⟩
  case mul => exact ⟨_, fun w => by simp [binOp_mul, Op.intArith], fun E => .int _ _⟩
  case eql => exact ⟨_, fun w => by simp [binOp_eql], fun E => .bool _⟩
  case neq => exact ⟨_, fun w => by simp [binOp_neq], fun E => .bool _⟩
  case lss => exact ⟨_, fun w => by simp [binOp_lss], fun E => .bool _⟩
  case leq => exact ⟨_, fun w => by simp [binOp_leq], fun E => .bool _⟩
  case gtr => exact ⟨_, fun w => by simp [binOp_gtr], fun E => .bool _⟩
  case geq => exact ⟨_, fun w => by simp [binOp_geq], fun E => .bool _⟩
  case and => exact ⟨_, fun w => by simp only [binOp_and]; rfl, fun E => .int _ _⟩
  case or => exact ⟨_, fun w => by simp only [binOp_or]; rfl, fun E => .int _ _⟩
  case xor => exact ⟨_, fun w => by simp only [binOp_xor]; rfl, fun E => .int _ _⟩
  case andNot => exact ⟨_, fun w => by simp only [binOp_andNot]; rfl, fun E => .int _ _⟩
theorem op_eval {op : Op} {v : AV} (h : aEval P op ev = some v) : AOp P m op ty ev v := by
  unfold aEval at h
  split at h
  · exact op_move (force_eq h)
  · exact op_assign (force_eq h)
  · split at h
    · rename_i hc; exact op_pick hc (force_eq h)
    · rename_i hc; exact op_pick hc (force_eq h)
    · cases h
  · rename_i t x y yt
    split at h
    · rename_i k a k' b hx hy
      simp only [aShift] at h
      split at h
      · cases h
      · rename_i h0
        cases h
        refine .of fun E ρ o ho _ hr => ?_
        have h1 := int_inv (hx ▸ hr x (by simp [Op.operands]))
        have h2 := int_inv (hy ▸ hr y (by simp [Op.operands]))
        exact ⟨_, .int _ _, fun w => by simp [execOp, ho, h1, h2, eqGuard, binOp_shl, Op.shift, h0]⟩
    · cases h
  · rename_i t x y yt
    split at h
    · rename_i k a k' b hx hy
      simp only [aShift] at h
      split at h
      · cases h
      · rename_i h0
        cases h
        refine .of fun E ρ o ho _ hr => ?_
        have h1 := int_inv (hx ▸ hr x (by simp [Op.operands]))
        have h2 := int_inv (hy ▸ hr y (by simp [Op.operands]))
        exact ⟨_, .int _ _, fun w => by simp [execOp, ho, h1, h2, eqGuard, binOp_shr, Op.shift, h0]⟩
    · cases h
  · rename_i bo t x y yt _ _
    split at h
    · rename_i k a k' b hx hy
      split at h
      · rename_i hk
        subst hk
        refine .of fun E ρ o ho _ hr => ?_
        have h1 := int_inv (hx ▸ hr x (by simp [Op.operands]))
        have h2 := int_inv (hy ▸ hr y (by simp [Op.operands]))
        obtain ⟨u, same, hru⟩ := run_intBits (P := P) bo t k a b v h
        exact ⟨u, hru E, fun w => by simp [execOp, ho, h1, h2, eqGuard_at_int, same w]⟩
      · cases h
    · rename_i a b hx hy
      split at h
      · rename_i r hr
        cases h
        exact op_str hx hy hr
      · cases h
    · cases h
  · split at h
    · rename_i hx; cases h; exact op_not hx
    · cases h
  · split at h
    · rename_i hx; cases h; exact op_neg hx
    · cases h
  · split at h
    · rename_i hx
      split at h
      · rename_i hv; exact op_extract hx (by rw [hv, force_eq h])
      · cases h
    · cases h
  · split at h
    · rename_i ha hc; cases h; exact op_func (forceL_eq ha) (forceL_eq hc)
    · cases h
  · split at h
    · rename_i hx; cases h; exact op_nilCheck hx trivial
    · rename_i hx; cases h; exact op_nilCheck hx trivial
    · rename_i hx; cases h; exact op_nilCheck hx trivial
    · cases h
  · cases h

theorem AL.go {d : Option Nat} {op : Op} {ty : TypeId} {pos : String} {after : Array Edge} {v : AV} (h : aEval P op (evF f) = some v) (hin : opsIn n op = true)
    (k : AL P n ops Q rest (updO f d v) m) : AL P n ops Q (⟨d, op, ty, pos, after, none⟩ :: rest) f m := AL.val' (op_eval h) hin k
section
variable {d : Option Nat} {pos : String} {after : Array Edge} {t yt : TypeId} {x y : Operand}
/-- A value that is not looked at. -/
theorem AL.mv {v : AV} (h : evF f x = v) (hin : oIn n x = true) (k : AL P n ops Q rest (updO f d v) m) : AL P n ops Q (⟨d, .move x, ty, pos, after, none⟩ :: rest) f m := AL.val' (op_move h) (by simp [opsIn, Op.operands]; cases x <;> simp_all [oIn]) k
theorem AL.as {v : AV} (h : evF f x = v) (hin : oIn n x = true) (k : AL P n ops Q rest (updO f d v) m) : AL P n ops Q (⟨d, .assign x, ty, pos, after, none⟩ :: rest) f m := AL.val' (op_assign h) (by simp [opsIn, Op.operands]; cases x <;> simp_all [oIn]) k
/-- A choice that is not decided yet. -/
theorem AL.pk {b : Bool} {c : Operand} (hc : evF f c = .bool b) (hin : oIn n c = true) (h1 : b = true → AL P n ops Q (⟨d, .move x, ty, pos, after, none⟩ :: rest) f m) (h2 : b = false → AL P n ops Q (⟨d, .move y, ty, pos, after, none⟩ :: rest) f m) :
    AL P n ops Q (⟨d, .pick c x y, ty, pos, after, none⟩ :: rest) f m := by
  intro B E w a hs
  have hr := evF_rep hs c (oIn_spec hin)
  rw [hc] at hr
  have hb : a.eval c = .bool b := bool_inv hr
  have key : ∀ z, (b = true → z = x) → (b = false → z = y) → execOp a.eval ⟨d, .pick c x y, ty, pos, after, none⟩ = execOp a.eval ⟨d, .move z, ty, pos, after, none⟩ := by
    intro z hz1 hz2
    cases b with
    | true => rw [hz1 rfl]; simp only [execOp, hb]; rfl
    | false => rw [hz2 rfl]; simp only [execOp, hb]; rfl
  have fin : ∀ z, execOp a.eval ⟨d, .pick c x y, ty, pos, after, none⟩ = execOp a.eval ⟨d, .move z, ty, pos, after, none⟩ → wpList P ops (lift B n Q) (⟨d, .move z, ty, pos, after, none⟩ :: rest) a w → wpList P ops (lift B n Q) (⟨d, .pick c x y, ty, pos, after, none⟩ :: rest) a w := by
    intro z hz h
    unfold wpList Oper.wp Oper.asks at h ⊢
    rw [hz]
    exact h
  cases b with
  | true => exact fin x (key x (fun _ => rfl) (fun h => by cases h)) (h1 rfl B E w a hs)
  | false => exact fin y (key y (fun h => by cases h) (fun _ => rfl)) (h2 rfl B E w a hs)
/-- Sums that fit. -/
theorem AL.add {a b : Int} (hx : evF f x = .int .i64 a) (hy : evF f y = .int .i64 b) (hin : opsIn n (.binOp .add t x y yt) = true) (h1 : -9223372036854775808 ≤ a + b) (h2 : a + b ≤ 9223372036854775807)
    (k : AL P n ops Q rest (updO f d (.int .i64 (a + b))) m) : AL P n ops Q (⟨d, .binOp .add t x y yt, ty, pos, after, none⟩ :: rest) f m := AL.val' (op_add_i64 hx hy h1 h2) hin k
theorem AL.sub {a b : Int} (hx : evF f x = .int .i64 a) (hy : evF f y = .int .i64 b) (hin : opsIn n (.binOp .sub t x y yt) = true) (h1 : -9223372036854775808 ≤ a - b) (h2 : a - b ≤ 9223372036854775807)
    (k : AL P n ops Q rest (updO f d (.int .i64 (a - b))) m) : AL P n ops Q (⟨d, .binOp .sub t x y yt, ty, pos, after, none⟩ :: rest) f m := AL.val' (op_sub_i64 hx hy h1 h2) hin k
theorem AL.len {e c sz : Nat} {rows : List (List AV)} [ht : SliceT P t e] (hx : evF f x = .sl c sz rows) (hin : oIn n x = true) (k : rows.length ≤ 9223372036854775807 → AL P n ops Q rest (updO f d (.int .i64 (rows.length : Int))) m) :
    AL P n ops Q (⟨d, .call { callee := .builtin .len, args := #[x], argTypes := #[t] }, ty, pos, after, none⟩ :: rest) f m := by
  intro B E w a hs
  have hr := evF_rep hs x (oIn_spec hin)
  rw [hx] at hr
  have hb : rows.length ≤ 9223372036854775807 := by
    generalize a.eval x = u at hr
    cases hr with
    | slnil => simp
    | sl _ _ _ b off cap blk T fr vs hb hc hm => unfold maxLen at hm; omega
  exact AL.val' (op_len_sl hx) (by simp [opsIn, Op.operands, Call.operands]; cases x <;> simp_all [oIn]) (k hb) B E w a hs
theorem AL.lenNil {e : Nat} [ht : SliceT P t e] (hx : evF f x = .nilsl) (hin : oIn n x = true) (k : AL P n ops Q rest (updO f d (.int .i64 0)) m) :
    AL P n ops Q (⟨d, .call { callee := .builtin .len, args := #[x], argTypes := #[t] }, ty, pos, after, none⟩ :: rest) f m :=
  AL.val' (op_len_nil hx) (by simp [opsIn, Op.operands, Call.operands]; cases x <;> simp_all [oIn]) k
theorem AL.lenStr {s : List UInt8} [ht : StrT P t] (hx : evF f x = .str s) (hin : oIn n x = true) (k : AL P n ops Q rest (updO f d (.int .i64 (s.length : Int))) m) :
    AL P n ops Q (⟨d, .call { callee := .builtin .len, args := #[x], argTypes := #[t] }, ty, pos, after, none⟩ :: rest) f m :=
  AL.val' (op_len_str hx) (by simp [opsIn, Op.operands, Call.operands]; cases x <;> simp_all [oIn]) k
end

/-! ## Objects, found by their names -/
class Has (m : M) (g : Nat) (o : outParam AObj) : Prop where
  out : (g, o) ∈ m
instance Has.head {m : M} {g : Nat} {o : AObj} : Has ((g, o) :: m) g o := ⟨List.mem_cons_self⟩
instance Has.tail {m : M} {g : Nat} {o : AObj} {p : Nat × AObj} [h : Has m g o] : Has (p :: m) g o := ⟨List.mem_cons_of_mem _ h.out⟩
/-- An object, and the others. -/
class Tk (m : M) (g : Nat) (o : outParam AObj) (mr : outParam M) : Prop where
  out : m.Perm ((g, o) :: mr)
instance Tk.head {m : M} {g : Nat} {o : AObj} : Tk ((g, o) :: m) g o m := ⟨.refl _⟩
instance Tk.tail {m mr : M} {g : Nat} {o : AObj} {p : Nat × AObj} [h : Tk m g o mr] : Tk (p :: m) g o (p :: mr) := ⟨(h.out.cons p).trans (.swap _ _ _)⟩
/-- An object is another one, in its place. -/
class Up (m : M) (g : Nat) (o : outParam AObj) (F : outParam (AObj → M)) : Prop where
  out : ∃ mr, m.Perm ((g, o) :: mr) ∧ ∀ o', ((g, o') :: mr).Perm (F o')
instance Up.head {m : M} {g : Nat} {o : AObj} : Up ((g, o) :: m) g o (fun o' => (g, o') :: m) := ⟨m, .refl _, fun _ => .refl _⟩
instance Up.tail {m : M} {g : Nat} {o : AObj} {F : AObj → M} {p : Nat × AObj} [h : Up m g o F] : Up (p :: m) g o (fun o' => p :: F o') :=
  let ⟨mr, h1, h2⟩ := h.out
  ⟨p :: mr, (h1.cons p).trans (.swap _ _ _), fun o' => (List.Perm.swap _ _ _).trans ((h2 o').cons p)⟩
theorem AL.perm {m' : M} (h : m.Perm m') (k : AL P n ops Q rest f m') : AL P n ops Q rest f m := AL.gh (Gh.perm h) k

section
variable {d : Option Nat} {pos : String} {after : Array Edge} {t : TypeId} {x y : Operand}
theorem AL.fp {i o ft sz g off : Nat} {agg : Bool} [FieldT P t i o ft sz agg] (hx : evF f x = .ptr g off) (hin : oIn n x = true) (k : AL P n ops Q rest (updO f d (.ptr g (off + o))) m) :
    AL P n ops Q (⟨d, .fieldAddr t x i, ty, pos, after, none⟩ :: rest) f m := AL.val' (op_field_ptr hx) (by simp [opsIn, Op.operands]; cases x <;> simp_all [oIn]) k
theorem AL.fv {i o ft sz g j z off : Nat} {agg : Bool} [FieldT P t i o ft sz agg] (hx : evF f x = .vptr g j z off) (hin : oIn n x = true) (k : AL P n ops Q rest (updO f d (.vptr g j z (off + o))) m) :
    AL P n ops Q (⟨d, .fieldAddr t x i, ty, pos, after, none⟩ :: rest) f m := AL.val' (op_field_vptr hx) (by simp [opsIn, Op.operands]; cases x <;> simp_all [oIn]) k
theorem AL.fi {i o ft sz c : Nat} {cells cells' : List AV} {agg : Bool} [FieldT P t i o ft sz agg] (hx : evF f x = .iptr c cells) (hin : oIn n x = true) (hc : cells.drop o = cells') (k : AL P n ops Q rest (updO f d (.iptr c cells')) m) :
    AL P n ops Q (⟨d, .fieldAddr t x i, ty, pos, after, none⟩ :: rest) f m := AL.val' (op_field_iptr hx hc) (by simp [opsIn, Op.operands]; cases x <;> simp_all [oIn]) k
theorem AL.ld {g off T : Nat} {cs r : List AV} {v : AV} [AggT P t false] [h : Has m g (.blk T cs)] (hx : evF f x = .ptr g off) (hin : oIn n x = true) (hc : cs.drop off = v :: r) (k : AL P n ops Q rest (updO f d v) m) :
    AL P n ops Q (⟨d, .load t x, ty, pos, after, none⟩ :: rest) f m := AL.val' (op_load hx (ld_one (seg_ptr h.out hc))) (by simp [opsIn, Op.operands]; cases x <;> simp_all [oIn]) k
theorem AL.lda {g off T sz bytes : Nat} {cs r : List AV} [AggT P t true] [Sz P t sz bytes] [h : Has m g (.blk T cs)] (hx : evF f x = .ptr g off) (hin : oIn n x = true) (hc : (cs.drop off).take sz = r) (hl : sz ≤ (cs.drop off).length) (k : AL P n ops Q rest (updO f d (.agg r)) m) :
    AL P n ops Q (⟨d, .load t x, ty, pos, after, none⟩ :: rest) f m := AL.val' (op_load hx (ld_agg (seg_ptr h.out rfl) hc hl)) (by simp [opsIn, Op.operands]; cases x <;> simp_all [oIn]) k
theorem AL.ldi {c : Nat} {r : List AV} {v : AV} [AggT P t false] (hx : evF f x = .iptr c (v :: r)) (hin : oIn n x = true) (k : AL P n ops Q rest (updO f d v) m) :
    AL P n ops Q (⟨d, .load t x, ty, pos, after, none⟩ :: rest) f m := AL.val' (op_load hx (ld_one seg_iptr)) (by simp [opsIn, Op.operands]; cases x <;> simp_all [oIn]) k
theorem AL.ldia {c sz bytes : Nat} {cs r : List AV} [AggT P t true] [Sz P t sz bytes] (hx : evF f x = .iptr c cs) (hin : oIn n x = true) (hc : cs.take sz = r) (hl : sz ≤ cs.length) (k : AL P n ops Q rest (updO f d (.agg r)) m) :
    AL P n ops Q (⟨d, .load t x, ty, pos, after, none⟩ :: rest) f m := AL.val' (op_load hx (ld_agg seg_iptr hc hl)) (by simp [opsIn, Op.operands]; cases x <;> simp_all [oIn]) k
theorem AL.ldv {g i z off T : Nat} {rows : List (List AV)} {r cs : List AV} {v : AV} [AggT P t false] [h : Has m g (.vec T z rows)] (hx : evF f x = .vptr g i z off) (hin : oIn n x = true) (hi : rows[i]? = some r) (hc : r.drop off = v :: cs) (k : AL P n ops Q rest (updO f d v) m) :
    AL P n ops Q (⟨d, .load t x, ty, pos, after, none⟩ :: rest) f m := AL.val' (op_load hx (ld_one (seg_vptr h.out hi hc))) (by simp [opsIn, Op.operands]; cases x <;> simp_all [oIn]) k
theorem AL.ldva {g i z off T sz bytes : Nat} {rows : List (List AV)} {r cs : List AV} [AggT P t true] [Sz P t sz bytes] [h : Has m g (.vec T z rows)] (hx : evF f x = .vptr g i z off) (hin : oIn n x = true) (hi : rows[i]? = some r) (hc : (r.drop off).take sz = cs) (hl : sz ≤ (r.drop off).length) (k : AL P n ops Q rest (updO f d (.agg cs)) m) :
    AL P n ops Q (⟨d, .load t x, ty, pos, after, none⟩ :: rest) f m := AL.val' (op_load hx (ld_agg (seg_vptr h.out hi rfl) hc hl)) (by simp [opsIn, Op.operands]; cases x <;> simp_all [oIn]) k
theorem AL.ix {e sz bytes c : Nat} {rows : List (List AV)} {r : List AV} {k : IntKind} {i : Int} [SliceT P t e] [Sz P e sz bytes] (hx : evF f x = .sl c sz rows) (hy : evF f y = .int k i) (hin : opsIn n (.indexAddr t x y) = true) (h0 : 0 ≤ i) (hi : rows[i.toNat]? = some r)
    (kk : AL P n ops Q rest (updO f d (.iptr c r)) m) : AL P n ops Q (⟨d, .indexAddr t x y, ty, pos, after, none⟩ :: rest) f m := AL.val' (op_index_sl hx hy h0 hi) hin kk
theorem AL.ixv {e sz bytes g T : Nat} {rows : List (List AV)} {k : IntKind} {i : Int} [SliceT P t e] [Sz P e sz bytes] [h : Has m g (.vec T sz rows)] (hx : evF f x = .vec g) (hy : evF f y = .int k i) (hin : opsIn n (.indexAddr t x y) = true) (h0 : 0 ≤ i) (hi : i.toNat < rows.length)
    (kk : AL P n ops Q rest (updO f d (.vptr g i.toNat sz 0)) m) : AL P n ops Q (⟨d, .indexAddr t x y, ty, pos, after, none⟩ :: rest) f m := AL.val' (op_index_vec hx h.out hy h0 hi) hin kk
theorem AL.lenv {e g T sz : Nat} {rows : List (List AV)} [SliceT P t e] [h : Has m g (.vec T sz rows)] (hx : evF f x = .vec g) (hin : oIn n x = true) (k : AL P n ops Q rest (updO f d (.int .i64 (rows.length : Int))) m) :
    AL P n ops Q (⟨d, .call { callee := .builtin .len, args := #[x], argTypes := #[t] }, ty, pos, after, none⟩ :: rest) f m :=
  AL.val' (op_len_vec hx h.out) (by simp [opsIn, Op.operands, Call.operands]; cases x <;> simp_all [oIn]) k
theorem AL.st {sz bytes g off T' : Nat} {cs cs' : List AV} {v : AV} {G : AObj → M} [Sz P t sz bytes] [h : Up m g (.blk T' cs) G] (ha : evF f x = .ptr g off) (hx : evF f y = v) (hin : opsIn n (.store t x y) = true) (hsz : (cellsOf v).length = sz) (hok : okCells v = true) (hl : off + sz ≤ cs.length) (hc : splice cs off (cellsOf v) = cs')
    (k : AL P n ops Q rest (updO f d .undef) (G (.blk T' cs'))) : AL P n ops Q (⟨d, .store t x y, ty, pos, after, none⟩ :: rest) f m := by
  obtain ⟨mr, h1, h2⟩ := h.out
  exact AL.store_ptr ha hx h1 hsz hok hl hc hin (AL.perm (h2 _) k)
theorem AL.stv {sz bytes g i z off T' : Nat} {rows : List (List AV)} {r r' : List AV} {v : AV} {G : AObj → M} [Sz P t sz bytes] [h : Up m g (.vec T' z rows) G] (ha : evF f x = .vptr g i z off) (hx : evF f y = v) (hin : opsIn n (.store t x y) = true) (hi : rows[i]? = some r) (hsz : (cellsOf v).length = sz) (hok : okCells v = true) (hl : off + sz ≤ z) (hc : splice r off (cellsOf v) = r')
    (k : AL P n ops Q rest (updO f d .undef) (G (.vec T' z (rows.set i r')))) : AL P n ops Q (⟨d, .store t x y, ty, pos, after, none⟩ :: rest) f m := by
  obtain ⟨mr, h1, h2⟩ := h.out
  exact AL.store_vptr ha hx h1 hi hsz hok hl hc hin (AL.perm (h2 _) k)

theorem AL.st' {sz bytes g off T' : Nat} {cs cs' : List AV} {v : AV} {G : AObj → M} [Sz P t sz bytes] [h : Up m g (.blk T' cs) G] (ha : evF f x = .ptr g off) (hx : evF f y = v) (hin : opsIn n (.store t x y) = true) (hsz : (cellsOf v).length = sz) (hok : okCells v = true) (hl : off + sz ≤ cs.length) (hc : forceL (splice cs off (cellsOf v)) = some cs')
    (k : AL P n ops Q rest (updO f d .undef) (G (.blk T' cs'))) : AL P n ops Q (⟨d, .store t x y, ty, pos, after, none⟩ :: rest) f m := AL.st ha hx hin hsz hok hl (forceL_eq hc) k
theorem AL.box' {T : TypeId} {v : AV} {cells : List AV} (hx : evF f x = v) (hc : forceL (cellsOf v) = some cells) (hok : okCells v = true) (hin : oIn n x = true)
    (h : ∀ g, AL P n ops Q rest (updO f d (.ptr g 0)) ((g, .blk T cells) :: m)) : AL P n ops Q (⟨d, .box T x, ty, pos, after, none⟩ :: rest) f m := AL.box hx (forceL_eq hc) hok hin h
theorem AL.alloc' {T : TypeId} {z : AV} {cells : List AV} [hz : ZeroT P T z] (hc : forceL (cellsOf z) = some cells) (hok : okCells z = true)
    (h : ∀ g, AL P n ops Q rest (updO f d (.ptr g 0)) ((g, .blk T cells) :: m)) : AL P n ops Q (⟨d, .alloc T, ty, pos, after, none⟩ :: rest) f m := AL.alloc (forceL_eq hc) hok h
/-- A function that has a body. -/
class FnT (P : Program) (fid : FuncId) : Prop where
  out : ∃ fn, P.funcs[fid]? = some fn ∧ fn.body.isNone = false ∧ (fn.name == "runtime.NumGoroutine") = false
theorem callee_value {fid : FuncId} {fx : Operand} {xs : Array Operand} {ts : Array TypeId} {af ac args : List AV} [h : FnT P fid] (hx : ev fx = .fn (.func fid) af ac) (ha : af ++ xs.toList.map ev ++ ac = args) :
    ACallee P m (.call { callee := .value fx, args := xs, argTypes := ts }) ev fid args := by
  intro E w ρ o ho hr
  subst ha
  have hρ := hx ▸ hr fx (by simp [Op.operands, Call.operands])
  have hargs : ∀ x, x ∈ xs → Rep E (ev x) (ρ x) := fun x hx => hr x (by simp [Op.operands, Call.operands, hx])
  obtain ⟨fn, h1, h2, h3⟩ := h.out
  generalize hv : ρ fx = u at hρ
  cases hρ with
  | fn _ _ _ vf vc e1 e2 hf hc =>
    have hrun : (callFunc fid (vf ++ xs.map ρ ++ vc)).run P w = .ok (.enter fid (vf ++ xs.map ρ ++ vc)) w := by
      unfold callFunc
      simp only [Sem.run_bind, run_program, Result.andThen_ok, h1]
      rw [if_neg (by rw [h3]; simp), if_neg (by rw [h2]; simp)]
      rfl
    refine ⟨vf ++ xs.map ρ ++ vc, ?_, ?_⟩
    · simpa [execOp, ho, resolve, hv, Deferred.ofValue, invoke] using hrun
    · simp only [Array.toList_append, Array.toList_map]
      refine (Reps.append (Reps.append ⟨by simpa using e1, fun i hi => ?_⟩ ?_) ⟨by simpa using e2, fun i hi => ?_⟩)
      · have := hf i hi
        simpa [Array.getD_eq_getD_getElem?, List.getD_eq_getElem?_getD] using this
      · refine .of_get (by simp) (fun i a v ha hv => ?_)
        simp only [List.getElem?_map, Option.map_eq_some_iff] at ha hv
        obtain ⟨x1, hx1, rfl⟩ := ha
        obtain ⟨x2, hx2, rfl⟩ := hv
        rw [hx1] at hx2
        cases hx2
        exact hargs x1 (by simpa using List.mem_of_getElem? hx1)
      · have := hc i hi
        simpa [Array.getD_eq_getD_getElem?, List.getD_eq_getElem?_getD] using this
/-- A call, by its contract. -/
theorem AL.cl {d : Option Nat} {pos : String} {after : Array Edge} {fid : FuncId} {fx : Operand} {xs : Array Operand} {ts : Array TypeId} {af ac args : List AV} {ms mr : M} {R : AOut → M → Prop} [FnT P fid] (hx : evF f fx = .fn (.func fid) af ac) (ha : af ++ xs.toList.map (evF f) ++ ac = args)
    (hin : opsIn n (.call { callee := .value fx, args := xs, argTypes := ts }) = true) (hm : m.Perm (ms ++ mr)) (hc : ASpec P fid args ms R)
    (h : ∀ out m', R out m' → match out with | .ret v => AL P n ops Q rest (updO f d v) (m' ++ mr) | .pan v => Q (.panic v) f (m' ++ mr)) : AL P n ops Q (⟨d, .call { callee := .value fx, args := xs, argTypes := ts }, ty, pos, after, none⟩ :: rest) f m :=
  AL.call (o := ⟨d, .call { callee := .value fx, args := xs, argTypes := ts }, ty, pos, after, none⟩) rfl rfl (callee_value hx ha) hin hm hc h
/-- A call that touches no owned object, and answers one value. -/
theorem AL.cl0 {d : Option Nat} {pos : String} {after : Array Edge} {fid : FuncId} {fx : Operand} {xs : Array Operand} {ts : Array TypeId} {af ac args : List AV} {v : AV} [FnT P fid] (hc : ASpec P fid args [] (fun o m => o = .ret v ∧ m = [])) (hx : evF f fx = .fn (.func fid) af ac) (ha : af ++ xs.toList.map (evF f) ++ ac = args)
    (hin : opsIn n (.call { callee := .value fx, args := xs, argTypes := ts }) = true)
    (h : AL P n ops Q rest (updO f d v) m) : AL P n ops Q (⟨d, .call { callee := .value fx, args := xs, argTypes := ts }, ty, pos, after, none⟩ :: rest) f m :=
  AL.cl (ms := []) (mr := m) hx ha hin (by simp) hc (fun out m' ⟨h1, h2⟩ => by subst h1; subst h2; exact h)
end
theorem SatF.upd_same {B : Base} {E : Env} {a : Act} {w : World} (hs : SatF B E n f m a w) {k : Nat} {v : AV} (h : f k = v) : SatF B E n (upd f k v) m a w :=
  ⟨hs.1, hs.2.1, hs.2.2.1, fun t ht => by
    by_cases htk : t = k
    · subst htk; rw [upd_at, ← h]; exact hs.2.2.2 t ht
    · rw [upd_ne f v htk]; exact hs.2.2.2 t ht⟩
theorem AL.same {k : Nat} {v : AV} (h : f k = v) (hk : AL P n ops Q rest (upd f k v) m) : AL P n ops Q rest f m := fun B E w a hs => hk B E w a (hs.upd_same h)
/-- An operation that is done in one case alone. -/
theorem AL.guard {d : Option Nat} {op : Op} {pos : String} {after : Array Edge} {j d0 : Nat} {want b : Bool} (hd : (ops[j]?).bind (·.dst) = some d0) (hdn : Nat.blt d0 n = true) (hf : f d0 = .bool b)
    (h1 : b = want → AL P n ops Q (⟨d, op, ty, pos, after, none⟩ :: rest) (upd f d0 (.bool want)) m) (h2 : b = (!want) → AL P n ops Q rest (updO (upd f d0 (.bool (!want))) d .undef) m) : AL P n ops Q (⟨d, op, ty, pos, after, some (j, want)⟩ :: rest) f m := by
  have hlt : d0 < n := by simpa using hdn
  have hgi : guardIn n ops ⟨d, op, ty, pos, after, some (j, want)⟩ = true := by simp only [guardIn, hd]; simpa using hlt
  by_cases hb : b = want
  · subst hb
    refine AL.same hf ?_
    intro B E w a hs
    have hw := wanted_rep (o := ⟨d, op, ty, pos, after, some (j, b)⟩) hs (b := true) ⟨d0, hd, .inl ⟨b, upd_at _ _ _, by simp⟩⟩ hgi
    have := h1 rfl B E w a hs
    unfold wpList at this ⊢
    rw [if_pos (show Region.wanted ⟨d, op, ty, pos, after, none⟩ (yielded ops a.tmps) = true from rfl)] at this
    rw [if_pos hw]
    exact this
  · have hb' : b = (!want) := by cases b <;> cases want <;> simp_all
    subst hb'
    refine AL.same hf ?_
    exact AL.pass (o := ⟨d, op, ty, pos, after, some (j, want)⟩) ⟨d0, hd, .inl ⟨!want, upd_at _ _ _, by cases want <;> rfl⟩⟩ hgi (h2 rfl)
theorem AL.guardU {d : Option Nat} {op : Op} {pos : String} {after : Array Edge} {j d0 : Nat} {want : Bool} (hd : (ops[j]?).bind (·.dst) = some d0) (hdn : Nat.blt d0 n = true) (hf : f d0 = .undef)
    (h2 : AL P n ops Q rest (updO f d .undef) m) : AL P n ops Q (⟨d, op, ty, pos, after, some (j, want)⟩ :: rest) f m := by
  have hlt : d0 < n := by simpa using hdn
  exact AL.pass (o := ⟨d, op, ty, pos, after, some (j, want)⟩) ⟨d0, hd, .inr ⟨hf, rfl⟩⟩ (by simp only [guardIn, hd]; simpa using hlt) h2
/-- A guard that is decided. -/
theorem AL.guardY {d : Option Nat} {op : Op} {pos : String} {after : Array Edge} {j d0 : Nat} {want : Bool} (hd : (ops[j]?).bind (·.dst) = some d0) (hdn : Nat.blt d0 n = true) (hf : f d0 = .bool want)
    (h1 : AL P n ops Q (⟨d, op, ty, pos, after, none⟩ :: rest) f m) : AL P n ops Q (⟨d, op, ty, pos, after, some (j, want)⟩ :: rest) f m :=
by
  have hlt : d0 < n := by simpa using hdn
  have hgi : guardIn n ops ⟨d, op, ty, pos, after, some (j, want)⟩ = true := by simp only [guardIn, hd]; simpa using hlt
  intro B E w a hs
  have hw := wanted_rep (o := ⟨d, op, ty, pos, after, some (j, want)⟩) hs (b := true) ⟨d0, hd, .inl ⟨want, hf, by simp⟩⟩ hgi
  have := h1 B E w a hs
  unfold wpList at this ⊢
  rw [if_pos (show Region.wanted ⟨d, op, ty, pos, after, none⟩ (yielded ops a.tmps) = true from rfl)] at this
  rw [if_pos hw]
  exact this
theorem AL.guardN {d : Option Nat} {op : Op} {pos : String} {after : Array Edge} {j d0 : Nat} {want b : Bool} (hd : (ops[j]?).bind (·.dst) = some d0) (hdn : Nat.blt d0 n = true) (hf : f d0 = .bool b) (hb : b = (!want))
    (h2 : AL P n ops Q rest (updO f d .undef) m) : AL P n ops Q (⟨d, op, ty, pos, after, some (j, want)⟩ :: rest) f m :=
by
  have hlt : d0 < n := by simpa using hdn
  have hgi : guardIn n ops ⟨d, op, ty, pos, after, some (j, want)⟩ = true := by simp only [guardIn, hd]; simpa using hlt
  exact AL.pass (o := ⟨d, op, ty, pos, after, some (j, want)⟩) ⟨d0, hd, .inl ⟨b, hf, by subst hb; cases want <;> rfl⟩⟩ hgi h2
/-- What a function answers, looked at. -/
def aRes (f : F) : List ResultVar → Option (List AV)
  | [] => some []
  | .tmp t :: rs => match force (f t), aRes f rs with
    | some v, some vs => some (v :: vs)
    | _, _ => none
  | _ => none
theorem aRes_spec : ∀ {rs : List ResultVar} {vs : List AV}, aRes f rs = some vs → AResults P f m rs vs
  | [], vs, h => by cases h; exact .nil
  | .tmp t :: rs, vs, h => by
    simp only [aRes] at h
    split at h
    · rename_i v vs' hv hvs
      cases h
      exact .tmp (force_eq hv) (aRes_spec hvs)
    · cases h
  | .cell a t :: rs, vs, h => by simp [aRes] at h
theorem retQ {rs : List ResultVar} {vs : List AV} {R : AOut → M → Prop} (h : aRes f rs = some vs) (hr : R (.ret (outOf vs)) m) : bodyQ P rs R .ret f m := ⟨vs, aRes_spec h, hr⟩
theorem endQ {rs : List ResultVar} {vs : List AV} {R : AOut → M → Prop} (h : aRes f rs = some vs) (hr : R (.ret (outOf vs)) m) : bodyQ P rs R .normal f m := ⟨vs, aRes_spec h, hr⟩

end Go.V
