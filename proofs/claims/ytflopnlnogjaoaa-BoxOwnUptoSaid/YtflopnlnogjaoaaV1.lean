/- A separation-style logic over the kit's 'Code.wp': abstract values ('AV') in which data that nobody changes stands inline, owned objects under names, and how they are represented in memory. -/
import Derived.Below
import Derived.WalkKit
import Derived.Laws.AppendOwn
import Derived.Laws.CopyRow
import Derived.Orders
import Derived.KernelRfl
set_option linter.unusedVariables false
set_option linter.unusedSimpArgs false
namespace Go.V
open Go Go.RowKit

/-! ## Views and environments -/
abbrev View := Nat → Option Obj
def View.le (I J : View) : Prop := ∀ b o, I b = some o → J b = some o
theorem View.le.refl (I : View) : View.le I I := fun _ _ h => h
theorem View.le.trans {I J K : View} (h : View.le I J) (k : View.le J K) : View.le I K := fun b o e => k b o (h b o e)

/-- What names and colours stand for: the colour c's blocks (nobody changes them), the name g's value. -/
structure Env where
  I : Nat → View
  θ : Nat → Value
  n : Nat
structure Env.le (E E' : Env) : Prop where
  I : ∀ c, View.le (E.I c) (E'.I c)
  θ : ∀ g, g < E.n → E'.θ g = E.θ g
  n : E.n ≤ E'.n
theorem Env.le.refl (E : Env) : Env.le E E := ⟨fun _ => View.le.refl _, fun _ _ => rfl, Nat.le_refl _⟩
theorem Env.le.trans {a b c : Env} (h : Env.le a b) (k : Env.le b c) : Env.le a c :=
  ⟨fun i => (h.I i).trans (k.I i), fun g hg => (k.θ g (Nat.lt_of_lt_of_le hg h.n)).trans (h.θ g hg), Nat.le_trans h.n k.n⟩

/-! ## Abstract values -/
inductive AV where
  | bool (b : Bool)
  | int (k : IntKind) (n : Int)
  | str (s : List UInt8)
  /-- a pointer to the cell 'off' of the owned object 'g' -/
  | ptr (g off : Nat)
  | nilptr
  /-- a pointer to cells that nobody changes -/
  | iptr (c : Nat) (cells : List AV)
  /-- a slice of elements of sz cells each that nobody changes -/
  | sl (c sz : Nat) (rows : List (List AV))
  /-- the nil slice -/
  | nilsl
  /-- the owned slice 'g' -/
  | vec (g : Nat)
  /-- a pointer to the cell 'off' of the i-th element (of sz cells) of the owned slice 'g' -/
  | vptr (g i sz off : Nat)
  /-- a piece of the owned slice 'g', from the element lo to the element hi -/
  | vsub (g lo hi sz : Nat)
  | map (g : Nat)
  | nilmap
  | fn (f : Fn) (first captured : List AV)
  | nilfn
  | iface (t : TypeId) (v : AV)
  | nilif
  | agg (cells : List AV)
  | tuple (vs : List AV)
  | junk
  /-- what an operation leaves that was passed over -/
  | undef
instance : Inhabited AV := ⟨.junk⟩

def Bs (s : List UInt8) : ByteArray := ⟨s.toArray⟩
@[simp] theorem Bs_toList (s : List UInt8) : (Bs s).toList = s := by
  unfold Bs
  simp [ByteArray.toList_eq] <;> rfl

/-- What a name's block is. -/
def blkOf : Value → Option Nat
  | .pointer (some a) => some a.block
  | .slice (some a) _ _ => some a.block
  | .map (some r) => some r
  | _ => none

inductive Rep (E : Env) : AV → Value → Prop
  | bool (b : Bool) : Rep E (.bool b) (.bool b)
  | int (k : IntKind) (n : Int) : Rep E (.int k n) (.int k n)
  | str (s : List UInt8) : Rep E (.str s) (.string (Bs s))
  | ptr (g off b : Nat) (hg : g < E.n) (h : E.θ g = .pointer (some ⟨b, 0, none⟩)) : Rep E (.ptr g off) (.pointer (some ⟨b, off, none⟩))
  | nilptr : Rep E .nilptr (.pointer none)
  | iptr (c : Nat) (cells : List AV) (b off : Nat) (blk : Array Value) (T : TypeId) (fr : Nat × Nat) (vs : Nat → Value) (hb : E.I c b = some (.cells blk T fr))
      (hv : ∀ j, j < cells.length → blk[off + j]? = some (vs j)) (h1 : ∀ j, j < cells.length → (vs j).oneCell' = true) (hr : ∀ j (h : j < cells.length), Rep E cells[j] (vs j)) : Rep E (.iptr c cells) (.pointer (some ⟨b, off, none⟩))
  | slnil (c sz : Nat) (A : Option Addr) (cap : Nat) (hA : A = none → cap = 0) (hm : cap ≤ maxLen) : Rep E (.sl c sz []) (.slice A 0 cap)
  | sl (c sz : Nat) (rows : List (List AV)) (b off cap : Nat) (blk : Array Value) (T : TypeId) (fr : Nat × Nat) (vs : Nat → Value) (hb : E.I c b = some (.cells blk T fr))
      (hc : rows.length ≤ cap) (hm : cap ≤ maxLen) (hsz : ∀ r, r ∈ rows → r.length = sz)
      (hv : ∀ j, j < rows.length * sz → blk[off + j]? = some (vs j)) (h1 : ∀ j, j < rows.length * sz → (vs j).oneCell' = true)
      (hr : ∀ i (h : i < rows.length) j (hj : j < (rows[i]).length), Rep E (rows[i])[j] (vs (i * sz + j))) : Rep E (.sl c sz rows) (.slice (some ⟨b, off, none⟩) rows.length cap)
  | nilsl : Rep E .nilsl (.slice none 0 0)
  | vec (g : Nat) (hg : g < E.n) (ho : (E.θ g).oneCell' = true) : Rep E (.vec g) (E.θ g)
  | vptr (g i sz off b len cap : Nat) (hg : g < E.n) (h : E.θ g = .slice (some ⟨b, 0, none⟩) len cap) : Rep E (.vptr g i sz off) (.pointer (some ⟨b, i * sz + off, none⟩))
  | vsub (g lo hi sz b len cap : Nat) (hg : g < E.n) (h : E.θ g = .slice (some ⟨b, 0, none⟩) len cap) (h1 : lo < hi) (h2 : hi ≤ cap) : Rep E (.vsub g lo hi sz) (.slice (some ⟨b, lo * sz, none⟩) (hi - lo) (cap - lo))
  | vsubE (g lo sz : Nat) (A : Option Addr) (cap : Nat) (hA : A = none → cap = 0) (hm : cap ≤ maxLen) : Rep E (.vsub g lo lo sz) (.slice A 0 cap)
  | map (g : Nat) (hg : g < E.n) (ho : (E.θ g).oneCell' = true) : Rep E (.map g) (E.θ g)
  | nilmap : Rep E .nilmap (.map none)
  | fn (f : Fn) (first captured : List AV) (vf vc : Array Value) (h1 : vf.size = first.length) (h2 : vc.size = captured.length)
      (hf : ∀ i (h : i < first.length), Rep E first[i] (vf.getD i undef)) (hc : ∀ i (h : i < captured.length), Rep E captured[i] (vc.getD i undef)) : Rep E (.fn f first captured) (.func f vf vc)
  | nilfn : Rep E .nilfn .nilFunc
  | iface (t : TypeId) (v : AV) (u : Value) (h : Rep E v u) : Rep E (.iface t v) (.iface t u)
  | nilif : Rep E .nilif .nilIface
  | agg (cells : List AV) (vs : Array Value) (h1 : vs.size = cells.length) (h : ∀ i (h : i < cells.length), Rep E cells[i] (vs.getD i undef)) : Rep E (.agg cells) (.agg vs)
  | tuple (cells : List AV) (vs : Array Value) (h1 : vs.size = cells.length) (h : ∀ i (h : i < cells.length), Rep E cells[i] (vs.getD i undef)) : Rep E (.tuple cells) (.tuple vs)
  | junk (v : Value) : Rep E .junk v
  | undef : Rep E .undef Go.undef

theorem Rep.mono {E E' : Env} (hle : Env.le E E') {a : AV} {v : Value} (h : Rep E a v) : Rep E' a v := by
  induction h with
  | bool b => exact .bool b
  | int k n => exact .int k n
  | str s => exact .str s
  | ptr g off b hg h => exact .ptr g off b (Nat.lt_of_lt_of_le hg hle.n) ((hle.θ g hg).trans h)
  | nilptr => exact .nilptr
  | iptr c cells b off blk T fr vs hb hv h1 hr ih => exact .iptr c cells b off blk T fr vs (hle.I c b _ hb) hv h1 ih
  | slnil c sz A cap hA hm => exact .slnil c sz A cap hA hm
  | sl c sz rows b off cap blk T fr vs hb hc hm hsz hv h1 hr ih => exact .sl c sz rows b off cap blk T fr vs (hle.I c b _ hb) hc hm hsz hv h1 ih
  | nilsl => exact .nilsl
  | vec g hg ho => rw [← hle.θ g hg]; exact .vec g (Nat.lt_of_lt_of_le hg hle.n) (by rw [hle.θ g hg]; exact ho)
  | vptr g i sz off b len cap hg h => exact .vptr g i sz off b len cap (Nat.lt_of_lt_of_le hg hle.n) ((hle.θ g hg).trans h)
  | vsub g lo hi sz b len cap hg h h1 h2 => exact .vsub g lo hi sz b len cap (Nat.lt_of_lt_of_le hg hle.n) ((hle.θ g hg).trans h) h1 h2
  | vsubE g lo sz A cap hA hm => exact .vsubE g lo sz A cap hA hm
  | map g hg ho => rw [← hle.θ g hg]; exact .map g (Nat.lt_of_lt_of_le hg hle.n) (by rw [hle.θ g hg]; exact ho)
  | nilmap => exact .nilmap
  | fn f first captured vf vc h1 h2 hf hc ih1 ih2 => exact .fn f first captured vf vc h1 h2 ih1 ih2
  | nilfn => exact .nilfn
  | iface t v u h ih => exact .iface t v u ih
  | nilif => exact .nilif
  | agg cells vs h1 h ih => exact .agg cells vs h1 ih
  | tuple cells vs h1 h ih => exact .tuple cells vs h1 ih
  | junk v => exact .junk v
  | undef => exact .undef

/-- Cells, one by one. -/
def Reps (E : Env) (cells : List AV) (vs : List Value) : Prop := vs.length = cells.length ∧ ∀ i (h : i < cells.length), Rep E cells[i] (vs.getD i undef)
theorem Reps.mono {E E' : Env} (hle : Env.le E E') {cells : List AV} {vs : List Value} (h : Reps E cells vs) : Reps E' cells vs := ⟨h.1, fun i hi => (h.2 i hi).mono hle⟩
theorem Reps.nil (E : Env) : Reps E [] [] := ⟨rfl, fun i h => by cases h⟩
theorem Reps.cons {E : Env} {a : AV} {v : Value} {cells : List AV} {vs : List Value} (h : Rep E a v) (k : Reps E cells vs) : Reps E (a :: cells) (v :: vs) := by
  refine ⟨by simp [k.1], fun i hi => ?_⟩
  cases i with
  | zero => simpa using h
  | succ i => simpa using k.2 i (by simpa using hi)
theorem Reps.get {E : Env} {cells : List AV} {vs : List Value} (h : Reps E cells vs) {i : Nat} {a : AV} (ha : cells[i]? = some a) : ∃ v, vs[i]? = some v ∧ Rep E a v := by
  obtain ⟨hi, rfl⟩ := List.getElem?_eq_some_iff.1 ha
  have hi' : i < vs.length := by rw [h.1]; exact hi
  refine ⟨vs[i], by simp [hi'], ?_⟩
  have := h.2 i hi
  simpa [List.getD_eq_getElem?_getD, hi'] using this
theorem Reps.of_get {E : Env} {cells : List AV} {vs : List Value} (hl : vs.length = cells.length) (h : ∀ (i : Nat) (a : AV) (v : Value), cells[i]? = some a → vs[i]? = some v → Rep E a v) : Reps E cells vs :=
  ⟨hl, fun i hi => by
    have hi' : i < vs.length := by rw [hl]; exact hi
    have := h i cells[i] vs[i] (by simp [hi]) (by simp [hi'])
    simpa [List.getD_eq_getElem?_getD, hi'] using this⟩
theorem Reps.cons_inv {E : Env} {a : AV} {cells : List AV} {vs : List Value} (h : Reps E (a :: cells) vs) : ∃ v r, vs = v :: r ∧ Rep E a v ∧ Reps E cells r := by
  obtain ⟨h1, h2⟩ := h
  cases vs with
  | nil => simp at h1
  | cons v r =>
    refine ⟨v, r, rfl, h2 0 (by simp), ⟨by simpa using h1, fun i hi => ?_⟩⟩
    exact h2 (i + 1) (by simpa using hi)
theorem Reps.nil_inv {E : Env} {vs : List Value} (h : Reps E [] vs) : vs = [] := List.eq_nil_of_length_eq_zero (by simpa using h.1)
theorem Reps.append {E : Env} {c1 c2 : List AV} {v1 v2 : List Value} (h1 : Reps E c1 v1) (h2 : Reps E c2 v2) : Reps E (c1 ++ c2) (v1 ++ v2) := by
  refine .of_get (by simp [h1.1, h2.1]) fun i a v ha hv => ?_
  rw [List.getElem?_append] at ha hv
  rw [h1.1] at hv
  split at ha
  · rename_i hlt
    rw [if_pos hlt] at hv
    obtain ⟨u, hu, hr⟩ := h1.get ha
    rw [hu] at hv; cases hv; exact hr
  · rename_i hlt
    rw [if_neg hlt] at hv
    obtain ⟨u, hu, hr⟩ := h2.get ha
    rw [hu] at hv; cases hv; exact hr
theorem Reps.take {E : Env} {c : List AV} {v : List Value} (h : Reps E c v) (k : Nat) : Reps E (c.take k) (v.take k) := by
  refine .of_get (by simp [h.1]) fun i a u ha hu => ?_
  rw [List.getElem?_take] at ha hu
  split at ha
  · rename_i hlt
    rw [if_pos hlt] at hu
    obtain ⟨u', hu', hr⟩ := h.get ha
    rw [hu'] at hu; cases hu; exact hr
  · cases ha
theorem Reps.drop {E : Env} {c : List AV} {v : List Value} (h : Reps E c v) (k : Nat) : Reps E (c.drop k) (v.drop k) := by
  refine .of_get (by simp [h.1]) fun i a u ha hu => ?_
  rw [List.getElem?_drop] at ha hu
  obtain ⟨u', hu', hr⟩ := h.get ha
  rw [hu'] at hu; cases hu; exact hr
theorem Reps.set {E : Env} {c : List AV} {v : List Value} (h : Reps E c v) (k : Nat) {a : AV} {u : Value} (hr : Rep E a u) : Reps E (c.set k a) (v.set k u) := by
  refine .of_get (by simp [h.1]) fun i a' u' ha hu => ?_
  rw [List.getElem?_set] at ha hu
  rw [h.1] at hu
  split at ha
  · rename_i hk
    rw [if_pos hk] at hu
    split at ha
    · rename_i hl
      rw [if_pos hl] at hu
      cases ha; cases hu; exact hr
    · cases ha
  · rename_i hk
    rw [if_neg hk] at hu
    obtain ⟨u'', hu'', hr'⟩ := h.get ha
    rw [hu''] at hu; cases hu; exact hr'

/-! ## Owned objects -/
inductive AObj where
  | blk (T : TypeId) (cells : List AV)
  | vec (T : TypeId) (sz : Nat) (rows : List (List AV))
  | map (es : List (AV × AV))
  | siter (s : List UInt8) (pos : Nat)

abbrev M := List (Nat × AObj)

def Pairs (E : Env) (es : List (AV × AV)) (ms : List MapEntry) : Prop := ms.length = es.length ∧ ∀ (i : Nat) (a : AV × AV) (e : MapEntry), es[i]? = some a → ms[i]? = some e → Rep E a.1 e.key ∧ Rep E a.2 e.val

def ObjAt (E : Env) (w : World) (g : Nat) : AObj → Prop
  | .blk T cells => ∃ b vs, E.θ g = .pointer (some ⟨b, 0, none⟩) ∧ w.heap[b]? = some (.cells vs T (0, 0)) ∧ Reps E cells vs.toList ∧ ∀ v, v ∈ vs.toList → v.oneCell' = true
  | .vec T sz rows =>
    (∀ r, r ∈ rows → r.length = sz) ∧
    ((E.θ g = .slice none 0 0 ∧ rows = []) ∨
     ∃ b cap cur xs, E.θ g = .slice (some ⟨b, 0, none⟩) rows.length cap ∧ (∃ fr : Nat × Nat, (fr = (0, 0) ∨ cap * sz ≤ fr.1) ∧ w.heap[b]? = some (.cells cur T fr)) ∧ rows.length ≤ cap ∧ cap ≤ maxLen ∧ cur.size = cap * sz ∧ cur.toList.take (rows.length * sz) = xs ∧ Reps E rows.flatten xs ∧ ∀ v, v ∈ cur.toList → v.oneCell' = true)
  | .map es => ∃ r ms clock, E.θ g = .map (some r) ∧ w.heap[r]? = some (.map ms clock) ∧ ∃ es', es'.Perm es ∧ Pairs E es' ms.toList
  | .siter s pos => ∃ r, E.θ g = .pointer (some ⟨r, 0, none⟩) ∧ w.heap[r]? = some (.stringIter (Bs s) pos)

theorem Pairs.mono {E E' : Env} (hle : Env.le E E') {es : List (AV × AV)} {ms : List MapEntry} (h : Pairs E es ms) : Pairs E' es ms :=
  ⟨h.1, fun i a e ha he => let ⟨h1, h2⟩ := h.2 i a e ha he; ⟨h1.mono hle, h2.mono hle⟩⟩

/-- An object lives on, if its name does, and its block reads as before. -/
theorem ObjAt.mono {E E' : Env} (hle : Env.le E E') {w w' : World} {g : Nat} (hg : g < E.n) (hb : ∀ b, blkOf (E.θ g) = some b → w'.heap[b]? = w.heap[b]?) {o : AObj} (h : ObjAt E w g o) : ObjAt E' w' g o := by
  have hθ := hle.θ g hg
  cases o with
  | blk T cells =>
    obtain ⟨b, vs, h1, h2, h3⟩ := h
    exact ⟨b, vs, hθ.trans h1, by rw [hb b (by rw [h1]; rfl)]; exact h2, h3.1.mono hle, h3.2⟩
  | vec T sz rows =>
    obtain ⟨h0, h | ⟨b, cap, cur, xs, h1, h2, h3, h4, h5, h6, h7⟩⟩ := h
    · exact ⟨h0, .inl ⟨hθ.trans h.1, h.2⟩⟩
    · exact ⟨h0, .inr ⟨b, cap, cur, xs, hθ.trans h1, by rw [hb b (by rw [h1]; rfl)]; exact h2, h3, h4, h5, h6, h7.1.mono hle, h7.2⟩⟩
  | map es =>
    obtain ⟨r, ms, clock, h1, h2, es', h3, h4⟩ := h
    exact ⟨r, ms, clock, hθ.trans h1, by rw [hb r (by rw [h1]; rfl)]; exact h2, es', h3, h4.mono hle⟩
  | siter s pos =>
    obtain ⟨r, h1, h2⟩ := h
    exact ⟨r, hθ.trans h1, by rw [hb r (by rw [h1]; rfl)]; exact h2⟩

/-! ## The world as a whole -/
structure Base where
  w : World
  K : Nat → Prop
  N : Nat → Prop
  E : Env

structure Sat (B : Base) (E : Env) (m : M) (w : World) : Prop where
  os : w.os = B.w.os
  tape : w.tape = B.w.tape
  output : w.output = B.w.output
  size : B.w.heap.size ≤ w.heap.size
  keep : ∀ b, b < B.w.heap.size → ¬ B.K b → w.heap[b]? = B.w.heap[b]?
  le : Env.le B.E E
  gro : ∀ c b o, E.I c b = some o → B.E.I c b = some o ∨ B.w.heap.size ≤ b ∨ B.K b
  imm : ∀ c b o, E.I c b = some o → w.heap[b]? = some o
  obj : ∀ p, p ∈ m → ObjAt E w p.1 p.2
  own : ∀ p, p ∈ m → ∀ b, blkOf (E.θ p.1) = some b → (∀ c, E.I c b = none) ∧ (B.w.heap.size ≤ b ∨ B.K b) ∧ b < w.heap.size
  sep : m.Pairwise fun p q => p.1 ≠ q.1 ∧ ∀ b, blkOf (E.θ p.1) = some b → blkOf (E.θ q.1) ≠ some b
  lt : ∀ p, p ∈ m → p.1 < E.n
  nm : ∀ p, p ∈ m → B.E.n ≤ p.1 ∨ B.N p.1

abbrev F := Nat → AV
def upd (f : F) (k : Nat) (v : AV) : F := fun i => bif Nat.beq i k then v else f i
def updO (f : F) (d : Option Nat) (v : AV) : F := match d with | some k => upd f k v | none => f
def SatF (B : Base) (E : Env) (n : Nat) (f : F) (m : M) (a : Act) (w : World) : Prop :=
  Sat B E m w ∧ a.tmps.size = n ∧ a.defers = [] ∧ ∀ t, t < n → Rep E (f t) (a.tmps.getD t undef)

/-- What an operand is worth. Constants by 'ofConst'. -/
def ofConst : Value → AV
  | .bool b => .bool b
  | .int k n => .int k n
  | .string s => .str s.data.toList
  | .pointer none => .nilptr
  | .slice none 0 0 => .nilsl
  | .map none => .nilmap
  | .nilFunc => .nilfn
  | .nilIface => .nilif
  | _ => .junk
def evF (f : F) : Operand → AV
  | .tmp t => f t
  | .const v => ofConst v
  | .func k => .fn (.func k) [] []
  | .global _ => .junk


def Apart (E : Env) (p q : Nat × AObj) : Prop := p.1 ≠ q.1 ∧ ∀ b, blkOf (E.θ p.1) = some b → blkOf (E.θ q.1) ≠ some b
theorem Apart.symm {E : Env} {p q : Nat × AObj} (h : Apart E p q) : Apart E q p := ⟨h.1.symm, fun b hq hp => h.2 b hp hq⟩
theorem Sat.perm {B : Base} {E : Env} {m m' : M} {w : World} (h : Sat B E m w) (hm : m.Perm m') : Sat B E m' w :=
  { h with
    obj := fun p hp => h.obj p (hm.mem_iff.2 hp)
    own := fun p hp => h.own p (hm.mem_iff.2 hp)
    sep := (hm.pairwise_iff (R := Apart E) (fun h => h.symm)).1 h.sep
    lt := fun p hp => h.lt p (hm.mem_iff.2 hp)
    nm := fun p hp => h.nm p (hm.mem_iff.2 hp) }
theorem Sat.sub {B : Base} {E : Env} {m m' : M} {w : World} (h : Sat B E m w) (hm : m'.Sublist m) : Sat B E m' w :=
  { h with
    obj := fun p hp => h.obj p (hm.subset hp)
    own := fun p hp => h.own p (hm.subset hp)
    sep := h.sep.sublist hm
    lt := fun p hp => h.lt p (hm.subset hp)
    nm := fun p hp => h.nm p (hm.subset hp) }

/-! ## Contracts -/
def Kof (E : Env) (m : M) (b : Nat) : Prop := ∃ p, p ∈ m ∧ blkOf (E.θ p.1) = some b
def Nof (m : M) (g : Nat) : Prop := ∃ p, p ∈ m ∧ p.1 = g
def baseOf (E : Env) (m : M) (w : World) : Base := ⟨w, Kof E m, Nof m, E⟩

theorem Sat.enter {B : Base} {E : Env} {m ms mr : M} {w : World} (h : Sat B E m w) (hm : m.Perm (ms ++ mr)) : Sat (baseOf E ms w) E ms w := by
  have h' := (h.perm hm).sub (List.sublist_append_left ms mr)
  exact { os := rfl, tape := rfl, output := rfl, size := Nat.le_refl _, keep := fun _ _ _ => rfl, le := Env.le.refl _, gro := fun _ _ _ h => .inl h, imm := h.imm, obj := h'.obj
          own := fun p hp b hb => ⟨(h'.own p hp b hb).1, .inr ⟨p, hp, hb⟩, (h'.own p hp b hb).2.2⟩, sep := h'.sep, lt := h'.lt, nm := fun p hp => .inr ⟨p, hp, rfl⟩ }

theorem Sat.back {B : Base} {E E' : Env} {m ms mr m' : M} {w w' : World} (h0 : Sat B E m w) (hm : m.Perm (ms ++ mr)) (k : Sat (baseOf E ms w) E' m' w') : Sat B E' (m' ++ mr) w' := by
  have h := h0.perm hm
  have hsep := List.pairwise_append.1 h.sep
  have hK : ∀ b, Kof E ms b → (∀ c, E.I c b = none) ∧ (B.w.heap.size ≤ b ∨ B.K b) ∧ b < w.heap.size := fun b ⟨p, hp, hb⟩ => h.own p (List.mem_append_left _ hp) b hb
  have hr : ∀ q, q ∈ mr → ∀ b, blkOf (E.θ q.1) = some b → ¬ Kof E ms b := fun q hq b hb ⟨p, hp, hpb⟩ => (hsep.2.2 p hp q hq).2 b hpb hb
  have hθ : ∀ q, q ∈ mr → E'.θ q.1 = E.θ q.1 := fun q hq => k.le.θ q.1 (h.lt q (List.mem_append_right _ hq))
  refine { os := k.os.trans h.os, tape := k.tape.trans h.tape, output := k.output.trans h.output, size := Nat.le_trans h.size k.size, keep := ?_, le := h.le.trans k.le, gro := ?_, imm := k.imm, obj := ?_, own := ?_, sep := ?_, lt := ?_, nm := ?_ }
  · intro b hb hn
    refine (k.keep b (Nat.lt_of_lt_of_le hb h.size) (fun hkb => ?_)).trans (h.keep b hb hn)
    rcases (hK b hkb).2.1 with h1 | h1
    · exact absurd hb (Nat.not_lt.2 h1)
    · exact hn h1
  · intro c b o ho
    rcases k.gro c b o ho with h1 | h1 | h1
    · exact h.gro c b o h1
    · exact .inr (.inl (Nat.le_trans h.size h1))
    · exact .inr (hK b h1).2.1
  · intro p hp
    rcases List.mem_append.1 hp with hp | hp
    · exact k.obj p hp
    · refine (h.obj p (List.mem_append_right _ hp)).mono k.le (h.lt p (List.mem_append_right _ hp)) (fun b hb => ?_)
      exact k.keep b (h.own p (List.mem_append_right _ hp) b hb).2.2 (hr p hp b hb)
  · intro p hp b hb
    rcases List.mem_append.1 hp with hp | hp
    · obtain ⟨h1, h2, h3⟩ := k.own p hp b hb
      refine ⟨h1, ?_, h3⟩
      rcases h2 with h2 | h2
      · exact .inl (Nat.le_trans h.size h2)
      · exact (hK b h2).2.1
    · rw [hθ p hp] at hb
      obtain ⟨h1, h2, h3⟩ := h.own p (List.mem_append_right _ hp) b hb
      refine ⟨fun c => ?_, h2, Nat.lt_of_lt_of_le h3 k.size⟩
      cases hc : E'.I c b with
      | none => rfl
      | some o =>
        rcases k.gro c b o hc with h4 | h4 | h4
        · have := h1 c; change E.I c b = some o at h4; rw [this] at h4; cases h4
        · exact absurd h3 (Nat.not_lt.2 h4)
        · exact (hr p hp b hb h4).elim
  · refine List.pairwise_append.2 ⟨k.sep, ?_, ?_⟩
    · refine hsep.2.1.imp_of_mem (fun {p q} hp hq hpq => ?_)
      rw [hθ p hp, hθ q hq]
      exact hpq
    · intro p hp q hq
      rw [hθ q hq]
      refine ⟨fun e => ?_, fun b hb hqb => ?_⟩
      · rcases k.nm p hp with h1 | ⟨p', hp', he⟩
        · have := h.lt q (List.mem_append_right _ hq)
          change E.n ≤ p.1 at h1
          omega
        · exact (hsep.2.2 p' hp' q hq).1 (he.trans e)
      · have h3 := (h.own q (List.mem_append_right _ hq) b hqb).2.2
        rcases (k.own p hp b hb).2.1 with h4 | h4
        · exact absurd h3 (Nat.not_lt.2 h4)
        · exact hr q hq b hqb h4
  · intro p hp
    rcases List.mem_append.1 hp with hp | hp
    · exact k.lt p hp
    · exact Nat.lt_of_lt_of_le (h.lt p (List.mem_append_right _ hp)) k.le.n
  · intro p hp
    rcases List.mem_append.1 hp with hp | hp
    · rcases k.nm p hp with h1 | ⟨p', hp', he⟩
      · exact .inl (Nat.le_trans h.le.n h1)
      · rw [← he]; exact h.nm p' (List.mem_append_left _ hp')
    · exact h.nm p (List.mem_append_right _ hp)

inductive AOut where
  | ret (v : AV)
  | pan (v : AV)
def outRep (E : Env) : AOut → Ending → Prop
  | .ret v, .returned x => Rep E v x
  | .pan v, .panicked chain => ∃ u, chain = [{ v := u, recovered := false }] ∧ Rep E v u
  | _, _ => False
def ASpec (P : Program) (fid : FuncId) (args : List AV) (m : M) (R : AOut → M → Prop) : Prop :=
  ∀ (E : Env) (w : World) (vs : Array Value), Sat (baseOf E m w) E m w → Reps E args vs.toList → Calls P fid vs w fun e w' => ∃ E' m' out, Sat (baseOf E m w) E' m' w' ∧ outRep E' out e ∧ R out m'
theorem ASpec.mono {P : Program} {fid : FuncId} {args : List AV} {m : M} {R R' : AOut → M → Prop} (h : ASpec P fid args m R) (hr : ∀ o m, R o m → R' o m) : ASpec P fid args m R' :=
  fun E w vs hs hv => (h E w vs hs hv).mono fun e w' ⟨E', m', out, h1, h2, h3⟩ => ⟨E', m', out, h1, h2, hr _ _ h3⟩

end Go.V
