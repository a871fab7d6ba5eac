/- The operations, one rule each. -/
import Derived.Test.YtflopnlnogjaoaaV2
set_option linter.unusedVariables false
set_option linter.unusedSimpArgs false
namespace Go.V
open Go Go.RowKit

/-! ## What is asked of types -/
class Sz (P : Program) (t : TypeId) (sz bytes : outParam Nat) : Prop where
  out : (P.info? t).map (fun i => (i.size, i.bytes)) = some (sz, bytes)
class AggT (P : Program) (t : TypeId) (b : outParam Bool) : Prop where
  out : (P.underlying t).map (fun d => match d with | .struct _ | .array _ _ => true | _ => false) = some b
class SliceT (P : Program) (t : TypeId) (e : outParam TypeId) : Prop where
  out : P.underlying t = some (.slice e)
class ArrT (P : Program) (t : TypeId) (k : outParam Nat) (e : outParam TypeId) : Prop where
  out : P.underlying t = some (.array k e)
class MapT (P : Program) (t : TypeId) (k e : outParam TypeId) : Prop where
  out : P.underlying t = some (.map k e)
class IntT (P : Program) (t : TypeId) (k : outParam IntKind) : Prop where
  out : P.underlying t = some (.int k)
class StrT (P : Program) (t : TypeId) : Prop where
  out : P.underlying t = some .string
class PtrT (P : Program) (t : TypeId) (e : outParam TypeId) : Prop where
  out : P.underlying t = some (.pointer e)
class FieldT (P : Program) (s i : Nat) (off ft sz : outParam Nat) (agg : outParam Bool) : Prop where
  out : ∃ fs fl, P.underlying s = some (.struct fs) ∧ fs[i]? = some fl ∧ fl.offset = off ∧ fl.type = ft ∧ ((P.info? ft).map (·.size)) = some sz ∧ 0 < sz ∧
    (P.underlying ft).map (fun d => match d with | .struct _ | .array _ _ => true | _ => false) = some agg
/-- A type's zero value. -/
class ZeroT (P : Program) (t : TypeId) (z : outParam AV) : Prop where
  out : ∃ zv, (P.info? t).map (·.zero) = some (some zv) ∧ ∀ E, Rep E z zv

def ofZero : Value → AV
  | .agg vs => .agg (vs.toList.map ofConst)
  | v => ofConst v
theorem ofConst_rep (E : Env) (v : Value) : Rep E (ofConst v) v := by
  unfold ofConst
  split
  · exact .bool _
  · exact .int _ _
  · rename_i s; exact .str s.data.toList
  · exact .nilptr
  · exact .nilsl
  · exact .nilmap
  · exact .nilfn
  · exact .nilif
  · exact .junk _
theorem ofZero_rep (E : Env) (v : Value) : Rep E (ofZero v) v := by
  unfold ofZero
  split
  · rename_i vs
    refine .agg _ _ (by simp) (fun i h => ?_)
    simp at h
    simpa [Array.getD_eq_getD_getElem?, h] using ofConst_rep E vs[i]
  · exact ofConst_rep E v
theorem ZeroT.mk' {P : Program} {t : TypeId} (zv : Value) {z : AV} (h : (P.info? t).map (·.zero) = some (some zv)) (hz : ofZero zv = z) : ZeroT P t z := ⟨zv, h, fun E => hz ▸ ofZero_rep E zv⟩

variable {P : Program} {n : Nat} {f : F} {m : M} {Q : AQ} {ops : Array Oper} {rest : List Oper} {ev : Operand → AV} {ty : TypeId}

/-! ## The plain ones -/
theorem AOp.of {op : Op} {v : AV} (h : ∀ (E : Env) (ρ : Operand → Value) (o : Oper), o.op = op → o.type = ty → (∀ x, x ∈ op.operands → Rep E (ev x) (ρ x)) → ∃ x, Rep E v x ∧ ∀ w, (execOp ρ o).run P w = .ok (.value x) w) : AOp P m op ty ev v :=
  fun B E w ρ o hs ho hty hr => let ⟨x, hx, hrun⟩ := h E ρ o ho hty hr; ⟨x, hrun w, hx⟩
theorem op_move {x : Operand} {v : AV} (h : ev x = v) : AOp P m (.move x) ty ev v :=
  .of fun E ρ o ho _ hr => ⟨ρ x, h ▸ hr x (by simp [Op.operands]), fun w => by simp [execOp, ho]⟩
theorem op_assign {x : Operand} {v : AV} (h : ev x = v) : AOp P m (.assign x) ty ev v :=
  .of fun E ρ o ho _ hr => ⟨ρ x, h ▸ hr x (by simp [Op.operands]), fun w => by simp [execOp, ho]⟩
theorem op_pick {c x y : Operand} {b : Bool} {v : AV} (hc : ev c = .bool b) (h : (bif b then ev x else ev y) = v) : AOp P m (.pick c x y) ty ev v :=
  .of fun E ρ o ho _ hr => by
    have h1 := hr c (by simp [Op.operands])
    rw [hc] at h1
    generalize hv : ρ c = u at h1
    cases h1
    refine ⟨if b then ρ x else ρ y, ?_, fun w => ?_⟩
    · rw [← h]
      cases b
      · exact hr y (by simp [Op.operands])
      · exact hr x (by simp [Op.operands])
    · simp [execOp, ho, hv, asBool]

/-! ### Whole numbers -/
theorem int_inv {E : Env} {k : IntKind} {a : Int} {u : Value} (h : Rep E (.int k a) u) : u = .int k a := by cases h; rfl
theorem bool_inv {E : Env} {b : Bool} {u : Value} (h : Rep E (.bool b) u) : u = .bool b := by cases h; rfl
theorem str_inv {E : Env} {s : List UInt8} {u : Value} (h : Rep E (.str s) u) : u = .string (Bs s) := by cases h; rfl

theorem op_bin_int {bo : BinOp} {t yt : TypeId} {x y : Operand} {k : IntKind} {a b : Int} {v : AV} {r : Value} (hx : ev x = .int k a) (hy : ev y = .int k b)
    (hrun : ∀ w, (binOp bo t (.int k a) (.int k b)).run P w = .ok r w) (hv : ∀ E, Rep E v r) : AOp P m (.binOp bo t x y yt) ty ev v :=
  .of fun E ρ o ho _ hr => by
    have h1 := int_inv (hx ▸ hr x (by simp [Op.operands]))
    have h2 := int_inv (hy ▸ hr y (by simp [Op.operands]))
    exact ⟨r, hv E, fun w => by simp [execOp, ho, h1, h2, eqGuard_at_int, hrun]⟩
section
variable {t yt : TypeId} {x y : Operand} {k : IntKind} {a b : Int} (hx : ev x = .int k a) (hy : ev y = .int k b)
include hx hy
theorem op_add : AOp P m (.binOp .add t x y yt) ty ev (.int k (k.wrap (a + b))) := op_bin_int hx hy (fun w => by simp [binOp_add, Op.intArith]) (fun E => .int _ _)
theorem op_sub : AOp P m (.binOp .sub t x y yt) ty ev (.int k (k.wrap (a - b))) := op_bin_int hx hy (fun w => by simp [binOp_sub, Op.intArith]) (fun E => .int _ _)
theorem op_mul : AOp P m (.binOp .mul t x y yt) ty ev (.int k (k.wrap (a * b))) := op_bin_int hx hy (fun w => by simp [binOp_mul, Op.intArith]) (fun E => .int _ _)
theorem op_eql : AOp P m (.binOp .eql t x y yt) ty ev (.bool (a == b)) := op_bin_int hx hy (fun w => by simp [binOp_eql]) (fun E => .bool _)
theorem op_neq : AOp P m (.binOp .neq t x y yt) ty ev (.bool (a != b)) := op_bin_int hx hy (fun w => by simp [binOp_neq]) (fun E => .bool _)
theorem op_lss : AOp P m (.binOp .lss t x y yt) ty ev (.bool (decide (a < b))) := op_bin_int hx hy (fun w => by simp [binOp_lss]) (fun E => .bool _)
theorem op_leq : AOp P m (.binOp .leq t x y yt) ty ev (.bool (decide (a ≤ b))) := op_bin_int hx hy (fun w => by simp [binOp_leq]) (fun E => .bool _)
theorem op_gtr : AOp P m (.binOp .gtr t x y yt) ty ev (.bool (decide (b < a))) := op_bin_int hx hy (fun w => by simp [binOp_gtr]) (fun E => .bool _)
theorem op_geq : AOp P m (.binOp .geq t x y yt) ty ev (.bool (decide (b ≤ a))) := op_bin_int hx hy (fun w => by simp [binOp_geq]) (fun E => .bool _)
end
theorem op_add_i64 {t yt : TypeId} {x y : Operand} {a b : Int} (hx : ev x = .int .i64 a) (hy : ev y = .int .i64 b) (h1 : -9223372036854775808 ≤ a + b) (h2 : a + b ≤ 9223372036854775807) : AOp P m (.binOp .add t x y yt) ty ev (.int .i64 (a + b)) := by
  have := op_add (P := P) (m := m) (ty := ty) (t := t) (yt := yt) hx hy
  rwa [IntWalk.i64_in _ ⟨by omega, by omega⟩] at this
theorem op_sub_i64 {t yt : TypeId} {x y : Operand} {a b : Int} (hx : ev x = .int .i64 a) (hy : ev y = .int .i64 b) (h1 : -9223372036854775808 ≤ a - b) (h2 : a - b ≤ 9223372036854775807) : AOp P m (.binOp .sub t x y yt) ty ev (.int .i64 (a - b)) := by
  have := op_sub (P := P) (m := m) (ty := ty) (t := t) (yt := yt) hx hy
  rwa [IntWalk.i64_in _ ⟨by omega, by omega⟩] at this

/-! ### Bools, strings, tuples, functions, interfaces -/
theorem op_not {x : Operand} {t : TypeId} {b : Bool} (hx : ev x = .bool b) : AOp P m (.unOp .not t x) ty ev (.bool (!b)) :=
  .of fun E ρ o ho _ hr => by
    have h1 := bool_inv (hx ▸ hr x (by simp [Op.operands]))
    exact ⟨.bool (!b), .bool _, fun w => by simp [execOp, ho, h1, Op.unary]⟩
theorem op_neg {x : Operand} {t : TypeId} {k : IntKind} {a : Int} (hx : ev x = .int k a) : AOp P m (.unOp .neg t x) ty ev (.int k (k.wrap (0 - a))) :=
  .of fun E ρ o ho _ hr => by
    have h1 := int_inv (hx ▸ hr x (by simp [Op.operands]))
    exact ⟨_, .int _ _, fun w => by simp [execOp, ho, h1, Op.unary, Op.intArith]⟩
theorem run_equal_bool {t : TypeId} (a b : Bool) (ht : P.underlying t = some .bool) (w : World) : (Op.equal t (.bool a) (.bool b)).run P w = .ok (a == b) w := by
  show (Op.equalIn (9999 + 1) t (.bool a) (.bool b)).run P w = _
  generalize 9999 = d
  unfold Op.equalIn
  simp only [Sem.run_bind, run_underlying ht, Result.andThen_ok]
  rfl
theorem op_beq {t yt : TypeId} {x y : Operand} {a b : Bool} (hx : ev x = .bool a) (hy : ev y = .bool b) (ht : P.underlying t = some .bool) : AOp P m (.binOp .eql t x y yt) ty ev (.bool (a == b)) :=
  .of fun E ρ o ho _ hr => by
    have h1 := bool_inv (hx ▸ hr x (by simp [Op.operands]))
    have h2 := bool_inv (hy ▸ hr y (by simp [Op.operands]))
    refine ⟨.bool (a == b), .bool _, fun w => ?_⟩
    have hrun : (binOp .eql t (.bool a) (.bool b)).run P w = .ok (.bool (a == b)) w := by
      show (do pure (Value.bool (← Op.equal t (.bool a) (.bool b)))).run P w = _
      simp only [Sem.run_bind, run_equal_bool a b ht, Result.andThen_ok, Sem.run_pure]
    simp only [execOp, ho, h1, h2, eqGuard_at_bool, pure_bind, Sem.run_bind, hrun, Result.andThen_ok, Sem.run_pure]
theorem op_bne {t yt : TypeId} {x y : Operand} {a b : Bool} (hx : ev x = .bool a) (hy : ev y = .bool b) (ht : P.underlying t = some .bool) : AOp P m (.binOp .neq t x y yt) ty ev (.bool (!(a == b))) :=
  .of fun E ρ o ho _ hr => by
    have h1 := bool_inv (hx ▸ hr x (by simp [Op.operands]))
    have h2 := bool_inv (hy ▸ hr y (by simp [Op.operands]))
    refine ⟨.bool (!(a == b)), .bool _, fun w => ?_⟩
    have hrun : (binOp .neq t (.bool a) (.bool b)).run P w = .ok (.bool (!(a == b))) w := by
      show (do pure (Value.bool (!(← Op.equal t (.bool a) (.bool b))))).run P w = _
      simp only [Sem.run_bind, run_equal_bool a b ht, Result.andThen_ok, Sem.run_pure]
    simp only [execOp, ho, h1, h2, eqGuard_at_bool, pure_bind, Sem.run_bind, hrun, Result.andThen_ok, Sem.run_pure]
/-- Comparing strings. -/
def strOp (bo : BinOp) (a b : List UInt8) : Option Bool :=
  match bo with
  | .eql => some (a == b)
  | .neq => some (!(a == b))
  | .lss => some (Op.bytesLess a b)
  | .leq => some (Op.bytesLess a b || a == b)
  | .gtr => some (!(Op.bytesLess a b || a == b))
  | .geq => some (!(Op.bytesLess a b))
  | _ => none
theorem op_str {bo : BinOp} {t yt : TypeId} {x y : Operand} {a b : List UInt8} {r : Bool} (hx : ev x = .str a) (hy : ev y = .str b) (h : strOp bo a b = some r) : AOp P m (.binOp bo t x y yt) ty ev (.bool r) :=
  .of fun E ρ o ho _ hr => by
    have h1 := str_inv (hx ▸ hr x (by simp [Op.operands]))
    have h2 := str_inv (hy ▸ hr y (by simp [Op.operands]))
    refine ⟨.bool r, .bool _, fun w => ?_⟩
    have hrun : (binOp bo t (.string (Bs a)) (.string (Bs b))).run P w = .ok (.bool r) w := by
      cases bo <;> simp only [strOp, Option.some.injEq, reduceCtorEq] at h <;> subst h <;> simp [binOp, Op.stringOp]
    simp [execOp, ho, h1, h2, eqGuard_at_string, hrun]
theorem Bs_append (a b : List UInt8) : Bs a ++ Bs b = Bs (a ++ b) := by
  apply ByteArray.ext
  simp [Bs]
theorem Bs_size (a : List UInt8) : (Bs a).size = a.length := by simp [Bs, ByteArray.size]
theorem op_cat {t yt : TypeId} {x y : Operand} {a b : List UInt8} (hx : ev x = .str a) (hy : ev y = .str b) (h : a.length + b.length ≤ 9223372036854775807) : AOp P m (.binOp .add t x y yt) ty ev (.str (a ++ b)) :=
  .of fun E ρ o ho _ hr => by
    have h1 := str_inv (hx ▸ hr x (by simp [Op.operands]))
    have h2 := str_inv (hy ▸ hr y (by simp [Op.operands]))
    refine ⟨.string (Bs (a ++ b)), .str _, fun w => ?_⟩
    have hrun : (binOp .add t (.string (Bs a)) (.string (Bs b))).run P w = .ok (.string (Bs (a ++ b))) w := by
      have : ¬ (((Bs a).size + (Bs b).size : Nat) : Int) > IntKind.i64.max := by rw [Bs_size, Bs_size]; simp; omega
      simp only [binOp, Op.stringOp]
      rw [if_neg this, Bs_append]
      rfl
    simp [execOp, ho, h1, h2, eqGuard_at_string, hrun]
theorem op_extract {x : Operand} {i : Nat} {vs : List AV} {v : AV} (hx : ev x = .tuple vs) (hi : vs[i]? = some v) : AOp P m (.extract x i) ty ev v :=
  .of fun E ρ o ho _ hr => by
    have h1 := hr x (by simp [Op.operands])
    rw [hx] at h1
    generalize hv : ρ x = u at h1
    cases h1 with
    | tuple _ us hl h =>
      obtain ⟨hlt, rfl⟩ := List.getElem?_eq_some_iff.1 hi
      refine ⟨us.getD i undef, h i hlt, fun w => ?_⟩
      have hu : us[i]? = some (us.getD i undef) := by simp [Array.getD_eq_getD_getElem?, hl, hlt]
      simp only [execOp, ho, hv, Instr.extract, hu]
      rfl
theorem op_iface {x : Operand} {t : TypeId} {v : AV} {d : TypeDesc} (hx : ev x = v) (ht : P.underlying t = some d) (hd : (match d with | .interface _ => false | _ => true) = true) : AOp P m (.makeInterface t x) ty ev (.iface t v) :=
  .of fun E ρ o ho _ hr => by
    have h1 := hx ▸ hr x (by simp [Op.operands])
    refine ⟨.iface t (ρ x), .iface _ _ _ h1, fun w => ?_⟩
    have : (Instr.makeInterface t (ρ x)).run P w = .ok (.iface t (ρ x)) w := by
      unfold Instr.makeInterface
      simp only [Sem.run_bind, run_underlying ht, Result.andThen_ok]
      split
      · simp at hd
      · rfl
    simp [execOp, ho, this]
theorem op_func {fn : Fn} {fs cs : Array Operand} {af ac : List AV} (hf : fs.toList.map ev = af) (hc : cs.toList.map ev = ac) : AOp P m (.makeFunc fn fs cs) ty ev (.fn fn af ac) :=
  .of fun E ρ o ho _ hr => by
    subst hf; subst hc
    refine ⟨.func fn (fs.map ρ) (cs.map ρ), .fn _ _ _ _ _ (by simp) (by simp) (fun i hi => ?_) (fun i hi => ?_), fun w => by simp [execOp, ho, Instr.makeFunc]⟩
    · simp at hi
      have := hr fs[i] (by simp [Op.operands])
      simpa [Array.getD_eq_getD_getElem?, hi] using this
    · simp at hi
      have := hr cs[i] (by simp [Op.operands])
      simpa [Array.getD_eq_getD_getElem?, hi] using this
theorem op_conv_int {x : Operand} {src dst : TypeId} {k k' : IntKind} {a : Int} {d : TypeDesc} (hx : ev x = .int k a) (hs : P.underlying src = some d) [hd : IntT P dst k'] : AOp P m (.convert src dst x) ty ev (.int k' (k'.wrap a)) :=
  .of fun E ρ o ho _ hr => by
    have h1 := int_inv (hx ▸ hr x (by simp [Op.operands]))
    refine ⟨.int k' (k'.wrap a), .int _ _, fun w => ?_⟩
    have : (convert src dst (.int k a)).run P w = .ok (.int k' (k'.wrap a)) w := by simp [convert, run_underlying hs, run_underlying hd.out, Conv.intToInt]
    simp [execOp, ho, h1, this]
theorem op_nilCheck {x : Operand} {v : AV} (hx : ev x = v) (hv : match v with | .ptr _ _ | .vptr .. | .iptr .. => True | _ => False) : AOp P m (.nilCheck x) ty ev v :=
  .of fun E ρ o ho _ hr => by
    have h1 := hx ▸ hr x (by simp [Op.operands])
    refine ⟨ρ x, h1, fun w => ?_⟩
    have : ∃ a, ρ x = .pointer (some a) := by
      generalize ρ x = u at h1
      cases h1 <;> first | exact ⟨_, rfl⟩ | exact hv.elim
    obtain ⟨a, ha⟩ := this
    simp [execOp, ho, ha]

/-! ### Addresses -/
theorem run_fieldAt {s i o ft sz : Nat} {agg : Bool} [h : FieldT P s i o ft sz agg] (b off : Nat) (w : World) : (Instr.fieldAt s (.pointer (some ⟨b, off, none⟩)) i).run P w = .ok (.pointer (some ⟨b, off + o, none⟩)) w := by
  obtain ⟨fs, fl, h1, h2, h3, h4, h5, h6, h7⟩ := h.out
  have hsz : (sizeOf fl.type).run P w = .ok sz w := by
    cases hq : P.info? ft with
    | none => simp [hq] at h5
    | some i => simp [sizeOf, typeInfo, h4, hq] at h5 ⊢; exact h5
  subst h3
  simp [Instr.fieldAt, run_underlying h1, h2, Instr.sureAddr, fieldPlace, hsz, Nat.pos_iff_ne_zero.1 h6, Addr.add_lit]
theorem op_field_ptr {s i o ft sz : Nat} {agg : Bool} {x : Operand} {g off : Nat} [FieldT P s i o ft sz agg] (hx : ev x = .ptr g off) : AOp P m (.fieldAddr s x i) ty ev (.ptr g (off + o)) :=
  .of fun E ρ oo ho _ hr => by
    have h1 := hx ▸ hr x (by simp [Op.operands])
    generalize hv : ρ x = u at h1
    cases h1 with
    | ptr _ _ b hg h => exact ⟨_, .ptr g (off + o) b hg h, fun w => by simp [execOp, ho, hv, run_fieldAt]⟩
theorem op_field_vptr {s i o ft sz : Nat} {agg : Bool} {x : Operand} {g k z off : Nat} [FieldT P s i o ft sz agg] (hx : ev x = .vptr g k z off) : AOp P m (.fieldAddr s x i) ty ev (.vptr g k z (off + o)) :=
  .of fun E ρ oo ho _ hr => by
    have h1 := hx ▸ hr x (by simp [Op.operands])
    generalize hv : ρ x = u at h1
    cases h1 with
    | vptr _ _ _ _ b len cap hg h => exact ⟨_, .vptr g k z (off + o) b len cap hg h, fun w => by simp [execOp, ho, hv, run_fieldAt, Nat.add_assoc]⟩
theorem op_field_iptr {s i o ft sz : Nat} {agg : Bool} {x : Operand} {c : Nat} {cells cells' : List AV} [FieldT P s i o ft sz agg] (hx : ev x = .iptr c cells) (hc : cells.drop o = cells') : AOp P m (.fieldAddr s x i) ty ev (.iptr c cells') :=
  .of fun E ρ oo ho _ hr => by
    subst hc
    have h1 := hx ▸ hr x (by simp [Op.operands])
    generalize hv : ρ x = u at h1
    cases h1 with
    | iptr _ _ b off blk T fr vs hb hvv h1' hr' =>
      refine ⟨_, .iptr c (cells.drop o) b (off + o) blk T fr (fun j => vs (o + j)) hb (fun j hj => ?_) (fun j hj => h1' _ (by simp at hj; omega)) (fun j hj => ?_), fun w => by simp [execOp, ho, hv, run_fieldAt]⟩
      · simp at hj
        have := hvv (o + j) (by omega)
        rwa [← Nat.add_assoc] at this
      · simp at hj
        have := hr' (o + j) (by omega)
        simpa using this

theorem run_indexAt {t e sz bytes : Nat} [ht : SliceT P t e] [hz : Sz P e sz bytes] (b off len cap : Nat) (k : IntKind) (i : Int) (h0 : 0 ≤ i) (h1 : i < len) (w : World) :
    (Instr.indexAt t (.slice (some ⟨b, off, none⟩) len cap) (.int k i)).run P w = .ok (.pointer (some ⟨b, off + i.toNat * sz, none⟩)) w := by
  have hsz : (sizeOf e).run P w = .ok sz w := by
    have := hz.out
    cases hq : P.info? e with
    | none => simp [hq] at this
    | some i => simp [sizeOf, typeInfo, hq] at this ⊢; exact this.1
  simp [Instr.indexAt, run_underlying ht.out, asIntOf, h0, h1, hsz, Addr.add_lit]
theorem op_index_sl {t e sz bytes : Nat} {x y : Operand} {c : Nat} {rows : List (List AV)} {r : List AV} {k : IntKind} {i : Int} [SliceT P t e] [Sz P e sz bytes] (hx : ev x = .sl c sz rows) (hy : ev y = .int k i) (h0 : 0 ≤ i) (hi : rows[i.toNat]? = some r) :
    AOp P m (.indexAddr t x y) ty ev (.iptr c r) :=
  .of fun E ρ oo ho _ hr => by
    have h1 := hx ▸ hr x (by simp [Op.operands])
    have h2 := int_inv (hy ▸ hr y (by simp [Op.operands]))
    obtain ⟨hlt, rfl⟩ := List.getElem?_eq_some_iff.1 hi
    generalize hv : ρ x = u at h1
    cases h1 with
    | slnil => simp at hlt
    | sl _ _ _ b off cap blk T fr vs hb hc hm hsz hvv h1' hr' =>
      have hrl : rows[i.toNat].length = sz := hsz _ (List.getElem_mem hlt)
      have hle : (i.toNat + 1) * sz ≤ rows.length * sz := Nat.mul_le_mul_right _ hlt
      rw [Nat.add_mul, Nat.one_mul] at hle
      refine ⟨_, .iptr c _ b (off + i.toNat * sz) blk T fr (fun j => vs (i.toNat * sz + j)) hb (fun j hj => ?_) (fun j hj => h1' _ (by rw [hrl] at hj; omega)) (fun j hj => ?_), fun w => by simp [execOp, ho, hv, h2, run_indexAt b off rows.length cap k i h0 (by omega)]⟩
      · rw [hrl] at hj
        have := hvv (i.toNat * sz + j) (by omega)
        rwa [← Nat.add_assoc] at this
      · exact hr' i.toNat hlt j hj
theorem op_index_vec {t e sz bytes : Nat} {x y : Operand} {g T : Nat} {rows : List (List AV)} {k : IntKind} {i : Int} [SliceT P t e] [Sz P e sz bytes] (hx : ev x = .vec g) (hm : (g, AObj.vec T sz rows) ∈ m) (hy : ev y = .int k i) (h0 : 0 ≤ i) (hi : i.toNat < rows.length) :
    AOp P m (.indexAddr t x y) ty ev (.vptr g i.toNat sz 0) := by
  intro B E w ρ oo hs ho _ hr
  have h1 := hx ▸ hr x (by simp [Op.operands])
  have h2 := int_inv (hy ▸ hr y (by simp [Op.operands]))
  have hob := hs.obj _ hm
  generalize hv : ρ x = u at h1
  cases h1 with
  | vec _ hg =>
    obtain ⟨_, ⟨_, hnil⟩ | ⟨b, cap, cur, xs, hθ, _⟩⟩ := hob
    · subst hnil; simp at hi
    · rw [show E.θ (g, AObj.vec T sz rows).1 = E.θ g from rfl] at hθ
      rw [hθ] at hv
      refine ⟨_, ?_, .vptr g i.toNat sz 0 b rows.length cap hg hθ⟩
      simp [execOp, ho, hv, h2, run_indexAt b 0 rows.length cap k i h0 (by omega)]

/-! ### Loads -/
def CellsAt (w : World) (b off : Nat) (vs : List Value) : Prop := ∀ j v, vs[j]? = some v → w.cell? ⟨b, off + j, none⟩ = some v
/-- What a pointer points to. -/
def ASeg (m : M) (p : AV) (cells : List AV) : Prop := ∀ B E w u, Sat B E m w → Rep E p u → ∃ b off vs, u = .pointer (some ⟨b, off, none⟩) ∧ CellsAt w b off vs ∧ Reps E cells vs
theorem cell_of_blk {w : World} {b o : Nat} {cs : Array Value} {T : TypeId} {fr : Nat × Nat} (h : w.heap[b]? = some (.cells cs T fr)) : w.cell? ⟨b, o, none⟩ = cs[o]? := by simp [World.cell?, h]
theorem seg_ptr {g off T : Nat} {cs cells : List AV} (hm : (g, AObj.blk T cs) ∈ m) (hc : cs.drop off = cells) : ASeg m (.ptr g off) cells := by
  intro B E w u hs hr
  subst hc
  obtain ⟨b, vs, h1, h2, h3, _⟩ := hs.obj _ hm
  cases hr with
  | ptr _ _ b' hg h =>
    have : b = b' := by rw [show E.θ (g, AObj.blk T cs).1 = E.θ g from rfl, h] at h1; simpa using h1.symm
    subst this
    refine ⟨b, off, vs.toList.drop off, rfl, fun j v hj => ?_, h3.drop off⟩
    rw [cell_of_blk h2]
    simpa using hj
theorem seg_iptr {c : Nat} {cells : List AV} : ASeg m (.iptr c cells) cells := by
  intro B E w u hs hr
  cases hr with
  | iptr _ _ b off blk T fr vs hb hv h1 hr =>
    refine ⟨b, off, (List.range cells.length).map vs, rfl, fun j v hj => ?_, by simp, fun i hi => ?_⟩
    · rw [cell_of_blk (hs.imm c b _ hb)]
      simp only [List.getElem?_map, List.getElem?_range', Option.map_eq_some_iff] at hj
      obtain ⟨a, ha, rfl⟩ := hj
      have : j < cells.length ∧ a = j := by
        rw [List.getElem?_eq_some_iff] at ha
        obtain ⟨h1, h2⟩ := ha
        simp at h1 h2
        exact ⟨h1, h2.symm⟩
      rw [this.2]
      exact hv j this.1
    · simpa [List.getD_eq_getElem?_getD, hi] using hr i hi
theorem flatten_get {α : Type} {sz : Nat} : ∀ {rows : List (List α)}, (∀ r, r ∈ rows → r.length = sz) → ∀ {i : Nat} {r : List α}, rows[i]? = some r → ∀ {j : Nat}, j < sz → rows.flatten[i * sz + j]? = r[j]?
  | [], _, i, r, h, j, _ => by simp at h
  | r0 :: rows, hs, 0, r, h, j, hj => by
    simp at h
    subst h
    have : j < r0.length := by rw [hs r0 (by simp)]; exact hj
    simp [List.getElem?_append, this]
  | r0 :: rows, hs, i + 1, r, h, j, hj => by
    have h0 := hs r0 (by simp)
    have ih := flatten_get (rows := rows) (fun r hr => hs r (by simp [hr])) (i := i) (r := r) (by simpa using h) hj
    have : ¬ ((i + 1) * sz + j < r0.length) := by rw [h0, Nat.add_mul]; omega
    rw [List.flatten_cons, List.getElem?_append, if_neg this, h0]
    have e : (i + 1) * sz + j - sz = i * sz + j := by rw [Nat.add_mul]; omega
    rw [e, ih]
theorem flatten_length {α : Type} {sz : Nat} : ∀ {rows : List (List α)}, (∀ r, r ∈ rows → r.length = sz) → rows.flatten.length = rows.length * sz
  | [], _ => by simp
  | r0 :: rows, hs => by
    have ih := flatten_length (rows := rows) (fun r hr => hs r (by simp [hr]))
    rw [List.flatten_cons, List.length_append, ih, hs r0 (by simp), List.length_cons, Nat.add_mul]; omega
theorem seg_vptr {g i sz off T : Nat} {rows : List (List AV)} {r cells : List AV} (hm : (g, AObj.vec T sz rows) ∈ m) (hi : rows[i]? = some r) (hc : r.drop off = cells) : ASeg m (.vptr g i sz off) cells := by
  intro B E w u hs hr
  subst hc
  obtain ⟨hsz, ⟨_, hnil⟩ | ⟨b, cap, cur, xs, h1, h2, h3, h4, h5, h6, h7, _⟩⟩ := hs.obj _ hm
  · subst hnil; simp at hi
  · cases hr with
    | vptr _ _ _ _ b' len' cap' hg h =>
      have : b = b' := by rw [show E.θ (g, AObj.vec T sz rows).1 = E.θ g from rfl, h] at h1; simp at h1; exact h1.1.symm
      subst this
      have hrl : r.length = sz := hsz r (List.mem_of_getElem? hi)
      obtain ⟨hlt, _⟩ := List.getElem?_eq_some_iff.1 hi
      have hle : (i + 1) * sz ≤ rows.length * sz := Nat.mul_le_mul_right _ hlt
      rw [Nat.add_mul, Nat.one_mul] at hle
      have hxl : xs.length = rows.length * sz := by rw [h7.1, flatten_length hsz]
      refine ⟨b, i * sz + off, (xs.drop (i * sz + off)).take (sz - off), rfl, fun j v hj => ?_, .of_get ?_ (fun j a v ha hv => ?_)⟩
      · obtain ⟨fz, hfz, h2⟩ := h2
        rw [cell_of_blk h2]
        rw [List.getElem?_take] at hj
        split at hj
        · rw [List.getElem?_drop, ← h6, List.getElem?_take] at hj
          split at hj
          · simpa using hj
          · cases hj
        · cases hj
      · simp [hxl, hrl]; omega
      · have hj : j < sz - off := by
          obtain ⟨h, _⟩ := List.getElem?_eq_some_iff.1 ha
          simp [hrl] at h
          exact h
        rw [List.getElem?_take, if_pos hj, List.getElem?_drop] at hv
        rw [List.getElem?_drop] at ha
        have hf := flatten_get hsz hi (j := off + j) (by omega)
        rw [ha, ← Nat.add_assoc] at hf
        obtain ⟨u, hu, hr⟩ := h7.get hf
        rw [hu] at hv
        cases hv
        exact hr

theorem run_isAgg {t : TypeId} {b : Bool} [h : AggT P t b] (w : World) : (isAgg t).run P w = .ok b w := by
  have := h.out
  cases hq : P.underlying t with
  | none => simp [hq] at this
  | some d =>
    simp only [hq, Option.map_some, Option.some.injEq] at this
    unfold isAgg
    simp only [Sem.run_bind, run_underlying hq, Result.andThen_ok]
    subst this
    cases d <;> rfl
theorem run_sizeOf {t sz bytes : Nat} [h : Sz P t sz bytes] (w : World) : (sizeOf t).run P w = .ok sz w := by
  have := h.out
  cases hq : P.info? t with
  | none => simp [hq] at this
  | some i => simp [sizeOf, typeInfo, hq] at this ⊢; exact this.1
theorem ld_one {t : TypeId} {p v : AV} {rs : List AV} [AggT P t false] (h : ASeg m p (v :: rs)) : ALd P m t p v := by
  intro B E w u hs hr
  obtain ⟨b, off, vs, hu, hc, hv⟩ := h B E w u hs hr
  obtain ⟨x, r, rfl, hx, _⟩ := hv.cons_inv
  have h0 := hc 0 x rfl
  refine ⟨b, off, hu, x, ?_, hx⟩
  rw [Nat.add_zero] at h0
  simp [loadVar, run_isAgg, h0]
theorem ld_agg {t sz bytes : Nat} {p : AV} {cells cs : List AV} [AggT P t true] [Sz P t sz bytes] (h : ASeg m p cells) (hc : cells.take sz = cs) (hl : sz ≤ cells.length) : ALd P m t p (.agg cs) := by
  intro B E w u hs hr
  subst hc
  obtain ⟨b, off, vs, hu, hc, hv⟩ := h B E w u hs hr
  refine ⟨b, off, hu, .agg (vs.take sz).toArray, ?_, .agg _ _ (by simp [hv.1]) (fun i hi => ?_)⟩
  · have hlen : (vs.take sz).length = sz := by simp [hv.1, hl]
    have := run_loadCells_list (P := P) w ⟨b, off, none⟩ (vs.take sz) (fun j v hj => by
      rw [List.getElem?_take] at hj
      split at hj
      · rw [Addr.add_lit]; exact hc j v hj
      · cases hj)
    rw [hlen] at this
    simp [loadVar, run_isAgg, run_sizeOf, this]
  · have := (hv.take sz).2 i hi
    simpa [Array.getD_eq_getD_getElem?, List.getD_eq_getElem?_getD] using this
theorem op_load {t : TypeId} {x : Operand} {p v : AV} (hx : ev x = p) (h : ALd P m t p v) : AOp P m (.load t x) ty ev v := by
  intro B E w ρ o hs ho _ hr
  have h1 := hx ▸ hr x (by simp [Op.operands])
  obtain ⟨b, off, hu, y, hy, hrep⟩ := h B E w _ hs h1
  exact ⟨y, by simp [execOp, ho, hu, Instr.loadAt, Instr.sureAddr, hy], hrep⟩
end Go.V
