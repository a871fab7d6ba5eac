/- Loops by the slots that they keep; results that stand in cells; conversions. -/
import Derived.Test.YtflopnlnogjaoaaV11
set_option linter.unusedVariables false
set_option linter.unusedSimpArgs false
namespace Go.V
open Go Go.RowKit

variable {P : Program} {n : Nat} {f : F} {m : M} {Q : AQ} {ops : Array Oper} {rest : List Oper} {ev : Operand → AV} {ty : TypeId}

theorem AW.perm {c : Code} {m' : M} (h : m.Perm m') (k : AW P n c Q f m') : AW P n c Q f m := AW.gh (Gh.perm h) k

/-- Slots are set. -/
def setS (f : F) : List Nat → List AV → F
  | k :: ks, v :: vs => upd (setS f ks vs) k v
  | _, _ => f
theorem upd_self {k : Nat} {v : AV} (h : f k = v) : upd f k v = f := by
  funext t
  by_cases ht : t = k
  · rw [ht, upd_at, h]
  · rw [upd_ne f v ht]
theorem setS_self (f : F) : ∀ (ks : List Nat), setS f ks (ks.map f) = f
  | [] => rfl
  | k :: ks => by
    show upd (setS f ks (ks.map f)) k (f k) = f
    rw [setS_self f ks]
    exact upd_self rfl
/-- A loop, by what it keeps in slots, and its objects. -/
theorem AW.loopS {c : Code} (ks : List Nat) (I : Nat → List AV → M → Prop) (k0 : Nat) (vs0 : List AV) (h0 : ks.map f = vs0) (hI : I k0 vs0 m)
    (round : ∀ (f : F) k vs m, I k vs m → AW P n c (thenQ (fun f' m' => ∃ k', k' < k ∧ I k' (ks.map f') m') Q) (setS f ks vs) m) : AW P n (.loop c) Q f m := by
  refine AW.loop (fun k f m => I k (ks.map f) m) k0 (by rw [h0]; exact hI) (fun k f m h => ?_)
  have := round f k (ks.map f) m h
  rwa [setS_self] at this
theorem AW.condT {c : Operand} {x y : Code} (hc : evF f c = .bool true) (hn : oIn n c = true) (h : AW P n x Q f m) : AW P n (.cond c x y) Q f m := AW.cond hc hn (fun _ => h) (fun h => by cases h)
theorem AW.condF {c : Operand} {x y : Code} (hc : evF f c = .bool false) (hn : oIn n c = true) (h : AW P n y Q f m) : AW P n (.cond c x y) Q f m := AW.cond hc hn (fun h => by cases h) (fun _ => h)
/-- What is kept between two pieces. -/
theorem AW.seqS {x y : Code} (ks : List Nat) (I : List AV → M → Prop) (h1 : AW P n x (thenQ (fun f' m' => I (ks.map f') m') Q) f m) (h2 : ∀ (f : F) vs m, I vs m → AW P n y Q (setS f ks vs) m) : AW P n (.seq x y) Q f m := by
  refine AW.seq' (AW.mono (fun e f' m' q => ?_) h1)
  cases e with
  | normal =>
    have := h2 f' (ks.map f') m' q
    rwa [setS_self] at this
  | _ => exact q
/-- The rounds, one by one: at most k. -/
def Rounds (P : Program) (n : Nat) (c : Code) (Q : AQ) : Nat → F → M → Prop
  | 0, _, _ => False
  | k + 1, f, m => AW P n c (thenQ (Rounds P n c Q k) Q) f m
theorem Rounds.step {c : Code} {k : Nat} (h : AW P n c (thenQ (Rounds P n c Q k) Q) f m) : Rounds P n c Q (k + 1) f m := h
theorem AW.rounds {c : Code} (k : Nat) (h : Rounds P n c Q k f m) : AW P n (.loop c) Q f m := by
  refine AW.loop (fun k f m => Rounds P n c Q k f m) k h (fun k f m h => ?_)
  cases k with
  | zero => exact h.elim
  | succ k =>
    refine AW.mono (fun e f m q => ?_) (show AW P n c (thenQ (Rounds P n c Q k) Q) f m from h)
    cases e <;> first | exact q | exact ⟨k, Nat.lt_succ_self k, q⟩

/-! ## What is answered -/
theorem retA {rs : List ResultVar} {vs : List AV} {R : AOut → M → Prop} (h : AResults P f m rs vs) (hr : R (.ret (outOf vs)) m) : bodyQ P rs R .ret f m := ⟨vs, h, hr⟩
theorem endA {rs : List ResultVar} {vs : List AV} {R : AOut → M → Prop} (h : AResults P f m rs vs) (hr : R (.ret (outOf vs)) m) : bodyQ P rs R .normal f m := ⟨vs, h, hr⟩
theorem AResults.t {t : Nat} {v : AV} {rs : List ResultVar} {vs : List AV} (h : force (f t) = some v) (k : AResults P f m rs vs) : AResults P f m (.tmp t :: rs) (v :: vs) := .tmp (force_eq h) k
theorem AResults.ca {a t g off T sz bytes : Nat} {cs r : List AV} {rs : List ResultVar} {vs : List AV} [AggT P t true] [Sz P t sz bytes] (hp : f a = .ptr g off) [h : Has m g (.blk T cs)] (hc : (cs.drop off).take sz = r) (hl : sz ≤ (cs.drop off).length) (k : AResults P f m rs vs) :
    AResults P f m (.cell a t :: rs) (.agg r :: vs) := .cell (hp ▸ ld_agg (seg_ptr h.out rfl) hc hl) k
theorem AResults.c1 {a t g off T : Nat} {cs r : List AV} {v : AV} {rs : List ResultVar} {vs : List AV} [AggT P t false] (hp : f a = .ptr g off) [h : Has m g (.blk T cs)] (hc : cs.drop off = v :: r) (k : AResults P f m rs vs) :
    AResults P f m (.cell a t :: rs) (v :: vs) := .cell (hp ▸ ld_one (seg_ptr h.out hc)) k

theorem slots {ks : List Nat} {vs vs' : List AV} (h : forceL (ks.map f) = some vs') (h' : vs' = vs) : ks.map f = vs := (forceL_eq h).trans h'
/-- Among the objects m are these. -/
def Kp (m m0 : M) : Prop := ∃ x, m.Perm (m0 ++ x)
/-- Objects that nobody asks for any more are let go. -/
theorem ASpec.sub {fid : FuncId} {args : List AV} {R : AOut → M → Prop} (h : ASpec P fid args m (fun o m' => ∃ m0, R o m0 ∧ Kp m' m0)) : ASpec P fid args m R :=
  fun E w vs hs hv => (h E w vs hs hv).mono fun e w' ⟨E', m', out, h1, h2, m0, h4, x, h3⟩ => ⟨E', m0, out, (h1.perm h3).sub (List.sublist_append_left _ _), h2, h4⟩
theorem Lets.refl {m : M} : Kp m m := ⟨[], by simp⟩
theorem Lets.nil {m : M} : Kp m [] := ⟨m, by simp⟩
theorem Lets.cons {p : Nat × AObj} {m m0 : M} (h : Kp m m0) : Kp (p :: m) (p :: m0) := let ⟨x, h⟩ := h; ⟨x, h.cons p⟩
theorem Lets.skip {p : Nat × AObj} {m m0 : M} (h : Kp m m0) : Kp (p :: m) m0 := let ⟨x, h⟩ := h; ⟨p :: x, (h.cons p).trans List.perm_middle.symm⟩
theorem Lets.take {p : Nat × AObj} {m mr m0 : M} (k : m.Perm (p :: mr)) (h : Kp mr m0) : Kp m (p :: m0) := let ⟨x, h⟩ := h; ⟨x, k.trans (h.cons p)⟩
theorem Lets.perm {m m' m0 m0' : M} (k : m.Perm m') (k0 : m0'.Perm m0) (h : Kp m' m0') : Kp m m0 := let ⟨x, h⟩ := h; ⟨x, k.trans (h.trans (k0.append_right x))⟩
theorem Lets.trans {m m1 m0 : M} (h : Kp m m1) (k : Kp m1 m0) : Kp m m0 := let ⟨x, h⟩ := h; let ⟨y, k⟩ := k; ⟨y ++ x, h.trans ((k.append_right x).trans (by rw [List.append_assoc]))⟩
theorem Lets.of_perm {m m0 : M} (k : m.Perm m0) : Kp m m0 := ⟨[], by simpa using k⟩
theorem AW.lets {c : Code} {m0 : M} (h : Kp m m0) (k : AW P n c Q f m0) : AW P n c Q f m := by
  obtain ⟨x, hx⟩ := h
  intro B E w a hs
  exact k B E w a ⟨(hs.1.perm hx).sub (List.sublist_append_left _ _), hs.2⟩

/-! ## Conversions -/
theorem op_ci {x : Operand} {src dst : TypeId} {k k0 k' : IntKind} {a : Int} [hs : IntT P src k0] [hd : IntT P dst k'] (hx : ev x = .int k a) : AOp P m (.convert src dst x) ty ev (.int k' (k'.wrap a)) := op_conv_int hx hs.out
theorem op_if {x : Operand} {t : TypeId} {v : AV} {d : TypeDesc} (ht : P.underlying t = some d) (hd : (match d with | .interface _ => false | _ => true) = true) (hx : ev x = v) : AOp P m (.makeInterface t x) ty ev (.iface t v) := op_iface hx ht hd

section
variable {d : Option Nat} {pos : String} {after : Array Edge} {t : TypeId} {x y : Operand} {S : M} {i : Nat} {r : List (Nat × Nat)}
theorem AL.stv' {sz bytes g i z off T' : Nat} {rows : List (List AV)} {r r' : List AV} {v : AV} {G : AObj → M} [Sz P t sz bytes] [h : Up m g (.vec T' z rows) G] (ha : evF f x = .vptr g i z off) (hx : evF f y = v) (hin : opsIn n (.store t x y) = true) (hi : rows[i]? = some r) (hsz : (cellsOf v).length = sz) (hok : okCells v = true) (hl : off + sz ≤ z) (hc : forceL (splice r off (cellsOf v)) = some r')
    (k : AL P n ops Q rest (updO f d .undef) (G (.vec T' z (rows.set i r')))) : AL P n ops Q (⟨d, .store t x y, ty, pos, after, none⟩ :: rest) f m := AL.stv ha hx hin hi hsz hok hl (forceL_eq hc) k
theorem Chain.last' {op : Op} (ho : ops[i]? = some ⟨d, op, ty, pos, after, none⟩) (h : AL P n ops Q [⟨d, op, ty, pos, after, none⟩] (updO f d .junk) m) : Chain P n ops Q S [(i, 2)] f m := Chain.last ho h
theorem AL.ixN {e sz bytes c j : Nat} {rows : List (List AV)} {rw : List AV} {k : IntKind} [SliceT P t e] [Sz P e sz bytes] (hx : evF f x = .sl c sz rows) (hy : evF f y = .int k (j : Int)) (hin : opsIn n (.indexAddr t x y) = true) (hi : rows[j]? = some rw)
    (kk : AL P n ops Q rest (updO f d (.iptr c rw)) m) : AL P n ops Q (⟨d, .indexAddr t x y, ty, pos, after, none⟩ :: rest) f m := AL.ix hx hy hin (by omega) (by simpa using hi) kk
theorem AL.ixvN {e sz bytes g T j : Nat} {rows : List (List AV)} {k : IntKind} [SliceT P t e] [Sz P e sz bytes] [h : Has m g (.vec T sz rows)] (hx : evF f x = .vec g) (hy : evF f y = .int k (j : Int)) (hin : opsIn n (.indexAddr t x y) = true) (hi : j < rows.length)
    (kk : AL P n ops Q rest (updO f d (.vptr g j sz 0)) m) : AL P n ops Q (⟨d, .indexAddr t x y, ty, pos, after, none⟩ :: rest) f m := AL.ixv hx hy hin (by omega) (by simpa using hi) (by simpa using kk)
theorem Chain.ixN {e sz bytes c j : Nat} {rows : List (List AV)} {rw : List AV} {k : IntKind} [SliceT P t e] [Sz P e sz bytes] (ho : ops[i]? = some ⟨d, .indexAddr t x y, ty, pos, after, none⟩) (hx : evF f x = .sl c sz rows) (hy : evF f y = .int k (j : Int)) (hi : rows[j]? = some rw)
    (kk : Chain P n ops Q S r (updO f d (.iptr c rw)) m) : Chain P n ops Q S ((i, 0) :: r) f m := Chain.ix ho hx hy (by omega) (by simpa using hi) kk
theorem Chain.ixvN {e sz bytes g T j : Nat} {rows : List (List AV)} {k : IntKind} [SliceT P t e] [Sz P e sz bytes] [h : Has S g (.vec T sz rows)] (ho : ops[i]? = some ⟨d, .indexAddr t x y, ty, pos, after, none⟩) (hx : evF f x = .vec g) (hy : evF f y = .int k (j : Int)) (hi : j < rows.length)
    (kk : Chain P n ops Q S r (updO f d (.vptr g j sz 0)) m) : Chain P n ops Q S ((i, 0) :: r) f m := Chain.ixv ho hx hy (by omega) (by simpa using hi) (by simpa using kk)
end
section
variable {d : Option Nat} {pos : String} {after : Array Edge} {t : TypeId} {x y : Operand} {g : Option (Nat × Bool)}
/-- Which kind a goal is: for a quick choice of the rule. -/
theorem AL.k (h : AL P n ops Q rest f m) : AL P n ops Q rest f m := h
theorem AW.k {c : Code} (h : AW P n c Q f m) : AW P n c Q f m := h
theorem AL.kG {op : Op} {j : Nat} {b : Bool} (h : AL P n ops Q (⟨d, op, ty, pos, after, some (j, b)⟩ :: rest) f m) : AL P n ops Q (⟨d, op, ty, pos, after, some (j, b)⟩ :: rest) f m := h
theorem AL.kLoad (h : AL P n ops Q (⟨d, .load t x, ty, pos, after, g⟩ :: rest) f m) : AL P n ops Q (⟨d, .load t x, ty, pos, after, g⟩ :: rest) f m := h
theorem AL.kField {i : Nat} (h : AL P n ops Q (⟨d, .fieldAddr t x i, ty, pos, after, g⟩ :: rest) f m) : AL P n ops Q (⟨d, .fieldAddr t x i, ty, pos, after, g⟩ :: rest) f m := h
theorem AL.kStore (h : AL P n ops Q (⟨d, .store t x y, ty, pos, after, g⟩ :: rest) f m) : AL P n ops Q (⟨d, .store t x y, ty, pos, after, g⟩ :: rest) f m := h
theorem AL.kCall {c : Call} (h : AL P n ops Q (⟨d, .call c, ty, pos, after, g⟩ :: rest) f m) : AL P n ops Q (⟨d, .call c, ty, pos, after, g⟩ :: rest) f m := h
theorem AL.kBin {b : BinOp} {yt : TypeId} (h : AL P n ops Q (⟨d, .binOp b t x y yt, ty, pos, after, g⟩ :: rest) f m) : AL P n ops Q (⟨d, .binOp b t x y yt, ty, pos, after, g⟩ :: rest) f m := h
theorem AL.kMove (h : AL P n ops Q (⟨d, .move x, ty, pos, after, g⟩ :: rest) f m) : AL P n ops Q (⟨d, .move x, ty, pos, after, g⟩ :: rest) f m := h
theorem AL.kAssign (h : AL P n ops Q (⟨d, .assign x, ty, pos, after, g⟩ :: rest) f m) : AL P n ops Q (⟨d, .assign x, ty, pos, after, g⟩ :: rest) f m := h
end
theorem AW.same {c : Code} {k : Nat} {v : AV} (h : f k = v) (hk : AW P n c Q (upd f k v) m) : AW P n c Q f m := fun B E w a hs => hk B E w a (hs.upd_same h)
/-- The middle, as the library reckons it. -/
theorem half_eq (i j : Nat) (h : i + j ≤ 9223372036854775807) : IntKind.i64.wrap ((IntKind.u64.wrap ((i : Int) + (j : Int))).fdiv (2 ^ (min (1 : Int).toNat IntKind.u64.bits))) = (((i + j) / 2 : Nat) : Int) := by
  rw [IntWalk.u64_in _ (by omega)]
  have : (2 : Int) ^ (min (1 : Int).toNat IntKind.u64.bits) = 2 := by rfl
  rw [this, Int.fdiv_eq_ediv_of_nonneg _ (by omega), IntWalk.i64_in _ (by omega)]
  omega
theorem AW.drawA {id : Nat} (order : List (Nat × Nat)) (hm : P.follows .mixedOrders = true) (hok : okOrder n ops order = true) (h : Chain P n ops Q m order f m) : AW P n (.region id ops true) Q f m := AW.draw order hm hok ⟨[], by simp⟩ h
end Go.V
