/- Rules for what changes memory. -/
import Derived.Test.YtflopnlnogjaoaaV3
import Derived.Deep.AppendSrc
set_option linter.unusedVariables false
set_option linter.unusedSimpArgs false
namespace Go.V
open Go Go.RowKit

variable {P : Program} {n : Nat} {f : F} {m : M} {Q : AQ} {ops : Array Oper} {rest : List Oper} {ev : Operand → AV} {ty : TypeId}

/-! ## One cell -/
theorem run_storeCells_atU (P : Program) (g o : Nat) (t : TypeId) (fz : Nat × Nat) : ∀ (vs : List Value) (i : Nat) (cur : Array Value) (w : World), w.heap[g]? = some (.cells cur t fz) → (fz = (0, 0) ∨ cur.size ≤ fz.1) → o + i + vs.length ≤ cur.size → (∀ v ∈ vs, v.oneCell' = true) →
    (storeCells ⟨g, o, none⟩ vs i).run P w = .ok () (w.setRow g (cur.toList.take (o + i) ++ vs ++ cur.toList.drop (o + i + vs.length)).toArray)
  | [], i, cur, w, hg, _, _, _ => by
    simp only [storeCells, List.append_nil, List.length_nil, Nat.add_zero, List.take_append_drop, Array.toArray_toList]
    rw [setRow_self w g cur t fz hg]
    rfl
  | v :: rest, i, cur, w, hg, hfz, hl, h1 => by
    have hi : o + i < cur.size := by simp at hl; omega
    have hadd : (⟨g, o, none⟩ : Addr).add i = ⟨g, o + i, none⟩ := by unfold Addr.add; split <;> simp_all
    have hcell : w.cell? ⟨g, o + i, none⟩ = some cur[o + i] := by simp [World.cell?, hg, hi]
    have hfro : w.frozen? ⟨g, o + i, none⟩ = false := by
      obtain ⟨lo, hi'⟩ := fz
      simp only [World.frozen?, hg, Bool.and_eq_false_iff, decide_eq_false_iff_not]
      rcases hfz with h | h
      · cases h; right; omega
      · simp only at h; left; omega
    have hst : (store ((⟨g, o, none⟩ : Addr).add i) v).run P w = .ok () (w.setRow g (cur.setIfInBounds (o + i) v)) := by
      rw [hadd, run_store P w _ v _ (h1 v (by simp)), hcell]
      simp [hfro, setCell_eq_setRow w g (o + i) cur t fz v hg]
    have ih := run_storeCells_atU P g o t fz rest (i + 1) (cur.setIfInBounds (o + i) v) (w.setRow g (cur.setIfInBounds (o + i) v)) (setRow_heap w g cur _ t _ hg) (by simpa using hfz) (by simp at hl ⊢; omega) (fun x hx => h1 x (by simp [hx]))
    simp only [storeCells, Sem.run_bind, hst, Result.andThen_ok, ih, setRow_setRow]
    congr 3
    have e := list_seg_step cur.toList (o + i) v rest (by simp at hl ⊢; omega)
    simpa [Array.toList_setIfInBounds, Nat.add_assoc] using e

def AV.isCell : AV → Bool
  | .agg _ | .tuple _ | .junk | .undef => false
  | _ => true
theorem Rep.oneCell {E : Env} {a : AV} {v : Value} (h : Rep E a v) (hc : a.isCell = true) : v.oneCell' = true := by
  cases h <;> first | rfl | assumption | simp [AV.isCell] at hc
def cellsOf : AV → List AV
  | .agg cs => cs
  | v => [v]
def okCells (v : AV) : Bool := (cellsOf v).all AV.isCell
theorem Reps.oneCell {E : Env} {cs : List AV} {vs : List Value} (h : Reps E cs vs) (hc : cs.all AV.isCell = true) : ∀ v, v ∈ vs → v.oneCell' = true := by
  intro v hv
  obtain ⟨i, hi, rfl⟩ := List.getElem_of_mem hv
  have hi' : i < cs.length := by rw [← h.1]; exact hi
  have := h.2 i hi'
  rw [List.getD_eq_getElem?_getD, List.getElem?_eq_getElem hi, Option.getD_some] at this
  exact this.oneCell (List.all_eq_true.1 hc _ (List.getElem_mem hi'))
theorem cells_rep {E : Env} {a : AV} {v : Value} (h : Rep E a v) (hc : okCells a = true) : Reps E (cellsOf a) v.cells.toList ∧ ∀ u, u ∈ v.cells.toList → u.oneCell' = true := by
  have key : Reps E (cellsOf a) v.cells.toList := by
    cases h with
    | agg cells vs h1 h =>
      refine ⟨by simpa [Value.cells, cellsOf] using h1, fun i hi => ?_⟩
      have := h i hi
      show Rep E cells[i] (vs.toList.getD i undef)
      simpa [List.getD_eq_getElem?_getD, Array.getD_eq_getD_getElem?] using this
    | tuple cells vs h1 h => simp [okCells, cellsOf, AV.isCell] at hc
    | junk => simp [okCells, cellsOf, AV.isCell] at hc
    | undef => simp [okCells, cellsOf, AV.isCell] at hc
    | vec g hg ho =>
      have : (E.θ g).cells = #[E.θ g] := by cases he : E.θ g <;> first | rfl | (rw [he] at ho; simp [Value.oneCell'] at ho)
      rw [this]; exact .cons (.vec g hg ho) (.nil E)
    | map g hg ho =>
      have : (E.θ g).cells = #[E.θ g] := by cases he : E.θ g <;> first | rfl | (rw [he] at ho; simp [Value.oneCell'] at ho)
      rw [this]; exact .cons (.map g hg ho) (.nil E)
    | bool b => exact .cons (.bool b) (.nil E)
    | int k n => exact .cons (.int k n) (.nil E)
    | str s => exact .cons (.str s) (.nil E)
    | ptr g off b hg h => exact .cons (.ptr g off b hg h) (.nil E)
    | nilptr => exact .cons .nilptr (.nil E)
    | iptr c cells b off blk T fr vs hb hv h1 hr => exact .cons (.iptr c cells b off blk T fr vs hb hv h1 hr) (.nil E)
    | slnil c sz A cap hA hm => exact .cons (.slnil c sz A cap hA hm) (.nil E)
    | sl c sz rows b off cap blk T fr vs hb hc' hm hsz hv h1 hr => exact .cons (.sl c sz rows b off cap blk T fr vs hb hc' hm hsz hv h1 hr) (.nil E)
    | nilsl => exact .cons .nilsl (.nil E)
    | vptr g i sz off b len cap hg h => exact .cons (.vptr g i sz off b len cap hg h) (.nil E)
    | vsub g lo hi sz b len cap hg h k1 k2 => exact .cons (.vsub g lo hi sz b len cap hg h k1 k2) (.nil E)
    | vsubE g lo sz A cap hA hm => exact .cons (.vsubE g lo sz A cap hA hm) (.nil E)
    | nilmap => exact .cons .nilmap (.nil E)
    | fn f first captured vf vc h1 h2 hf hcap => exact .cons (.fn f first captured vf vc h1 h2 hf hcap) (.nil E)
    | nilfn => exact .cons .nilfn (.nil E)
    | iface t v u h => exact .cons (.iface t v u h) (.nil E)
    | nilif => exact .cons .nilif (.nil E)
  exact ⟨key, key.oneCell hc⟩

/-! ## New names, new blocks -/
def Env.bind (E : Env) (v : Value) : Env := { E with θ := fun g => if g = E.n then v else E.θ g, n := E.n + 1 }
theorem Env.bind_le (E : Env) (v : Value) : Env.le E (E.bind v) :=
  ⟨fun _ => View.le.refl _, fun g hg => by simp [Env.bind, Nat.ne_of_lt hg], Nat.le_succ _⟩
theorem Env.bind_θ (E : Env) (v : Value) : (E.bind v).θ E.n = v := by simp [Env.bind]

/-- Some objects are given up, one has come. -/
theorem Sat.new {B : Base} {E : Env} {old mr : M} {w w' : World} (hs : Sat B E m w) (hm : m.Perm (old ++ mr)) (v : Value) (o : AObj)
    (hos : w'.os = w.os) (htape : w'.tape = w.tape) (hout : w'.output = w.output) (hsize : w.heap.size ≤ w'.heap.size)
    (hkeep : ∀ b, b < w.heap.size → ¬ Kof E old b → w'.heap[b]? = w.heap[b]?)
    (hblk : ∀ b, blkOf v = some b → (Kof E old b ∨ w.heap.size ≤ b) ∧ b < w'.heap.size)
    (hobj : ObjAt (E.bind v) w' E.n o) : Sat B (E.bind v) ((E.n, o) :: mr) w' := by
  have h := hs.perm hm
  have hlt : ∀ c b o, E.I c b = some o → b < w.heap.size := fun c b o ho => by
    have := hs.imm c b o ho
    exact (Array.getElem?_eq_some_iff.1 this).1
  refine hs.back hm (m' := [(E.n, o)]) (E' := E.bind v) ?_
  refine { os := hos, tape := htape, output := hout, size := hsize, keep := hkeep, le := Env.bind_le E v, gro := fun c b o ho => .inl ho, imm := ?_, obj := ?_, own := ?_, sep := by simp, lt := ?_, nm := ?_ }
  · intro c b ob ho
    rw [hkeep b (hlt c b ob ho) (fun ⟨p, hp, hb⟩ => ?_)]
    · exact hs.imm c b ob ho
    · have := (h.own p (List.mem_append_left _ hp) b hb).1 c
      change E.I c b = some ob at ho
      rw [this] at ho
      cases ho
  · intro p hp
    obtain rfl := List.mem_singleton.1 hp
    exact hobj
  · intro p hp b hb
    obtain rfl := List.mem_singleton.1 hp
    rw [Env.bind_θ] at hb
    obtain ⟨h1, h2⟩ := hblk b hb
    refine ⟨fun c => ?_, h1.symm, h2⟩
    cases hc : (E.bind v).I c b with
    | none => rfl
    | some ob =>
      change E.I c b = some ob at hc
      rcases h1 with ⟨p, hp, hpb⟩ | h1
      · have := (h.own p (List.mem_append_left _ hp) b hpb).1 c
        rw [this] at hc; cases hc
      · exact absurd (hlt c b ob hc) (Nat.not_lt.2 h1)
  · intro p hp
    obtain rfl := List.mem_singleton.1 hp
    exact Nat.lt_succ_self _
  · intro p hp
    obtain rfl := List.mem_singleton.1 hp
    exact .inl (Nat.le_refl _)

/-- An object is another one now, under its name. -/
theorem Sat.put {B : Base} {E : Env} {mr : M} {g : Nat} {o o' : AObj} {w w' : World} (hs : Sat B E m w) (hm : m.Perm ((g, o) :: mr))
    (hos : w'.os = w.os) (htape : w'.tape = w.tape) (hout : w'.output = w.output) (hsize : w.heap.size ≤ w'.heap.size)
    (hkeep : ∀ b, b < w.heap.size → blkOf (E.θ g) ≠ some b → w'.heap[b]? = w.heap[b]?)
    (hobj : ObjAt E w' g o') : Sat B E ((g, o') :: mr) w' := by
  have h := hs.perm hm
  have hK : ∀ b, Kof E [(g, o)] b ↔ blkOf (E.θ g) = some b := fun b => ⟨fun ⟨p, hp, hb⟩ => by obtain rfl := List.mem_singleton.1 hp; exact hb, fun hb => ⟨_, List.mem_singleton.2 rfl, hb⟩⟩
  have hlt : ∀ c b o, E.I c b = some o → b < w.heap.size := fun c b o ho => (Array.getElem?_eq_some_iff.1 (hs.imm c b o ho)).1
  refine hs.back (ms := [(g, o)]) hm (m' := [(g, o')]) (E' := E) ?_
  refine { os := hos, tape := htape, output := hout, size := hsize, keep := fun b hb hn => hkeep b hb (fun e => hn ((hK b).2 e)), le := Env.le.refl E, gro := fun c b o ho => .inl ho, imm := ?_, obj := ?_, own := ?_, sep := by simp, lt := ?_, nm := ?_ }
  · intro c b ob ho
    rw [hkeep b (hlt c b ob ho) (fun hb => ?_)]
    · exact hs.imm c b ob ho
    · have := (h.own (g, o) (by simp) b hb).1 c
      change E.I c b = some ob at ho
      rw [this] at ho
      cases ho
  · intro p hp
    obtain rfl := List.mem_singleton.1 hp
    exact hobj
  · intro p hp b hb
    obtain rfl := List.mem_singleton.1 hp
    have := h.own (g, o) (by simp) b hb
    exact ⟨this.1, .inr ((hK b).2 hb), Nat.lt_of_lt_of_le this.2.2 hsize⟩
  · intro p hp
    obtain rfl := List.mem_singleton.1 hp
    exact h.lt (g, o) (by simp)
  · intro p hp
    obtain rfl := List.mem_singleton.1 hp
    exact .inr ⟨_, List.mem_singleton.2 rfl, rfl⟩

theorem SatF.env {B : Base} {E E' : Env} {a : Act} {w w' : World} {m' : M} (hs : SatF B E n f m a w) (hle : Env.le E E') (h : Sat B E' m' w') : SatF B E' n f m' a w' :=
  ⟨h, hs.2.1, hs.2.2.1, fun t ht => (hs.2.2.2 t ht).mono hle⟩

/-- How an operation steps that yields a value and changes memory. -/
theorem AL.step {o : Oper} (hg : wantedF ops f o true) (hgn : guardIn n ops o = true)
    (h : ∀ B E w a, SatF B E n f m a w → ∃ x w', (execOp a.eval o).run P w = .ok (.value x) w' ∧ ∃ E' v m', Env.le E E' ∧ Sat B E' m' w' ∧ Rep E' v x ∧ AL P n ops Q rest (updO f o.dst v) m') : AL P n ops Q (o :: rest) f m := by
  intro B E w a hs
  obtain ⟨x, w', hrun, E', v, m', hle, hs', hr, hk⟩ := h B E w a hs
  have hw := wanted_rep hs hg hgn
  unfold wpList
  rw [if_pos hw]
  refine .inl ?_
  unfold Oper.wp
  rw [hrun]
  exact hk B E' w' _ (updO_rep (hs.env hle hs') hr)
theorem AL.skipStep {o : Oper} (hg : wantedF ops f o true) (hgn : guardIn n ops o = true)
    (h : ∀ B E w a, SatF B E n f m a w → ∃ w', (execOp a.eval o).run P w = .ok .skip w' ∧ ∃ E' m', Env.le E E' ∧ Sat B E' m' w' ∧ AL P n ops Q rest (updO f o.dst .undef) m') : AL P n ops Q (o :: rest) f m := by
  intro B E w a hs
  obtain ⟨w', hrun, E', m', hle, hs', hk⟩ := h B E w a hs
  have hw := wanted_rep hs hg hgn
  unfold wpList
  rw [if_pos hw]
  refine .inl ?_
  unfold Oper.wp
  rw [hrun]
  exact hk B E' w' _ (updO_undef (hs.env hle hs') _)

theorem heap_alloc_lt (w : World) (o : Obj) {b : Nat} (h : b < w.heap.size) : (w.alloc o).heap[b]? = w.heap[b]? := by
  show (w.heap.push o)[b]? = _
  rw [Array.getElem?_push, if_neg (by omega)]
theorem heap_alloc_at (w : World) (o : Obj) : (w.alloc o).heap[w.heap.size]? = some o := by
  show (w.heap.push o)[w.heap.size]? = _
  simp

/-- A new block of cells, under a new name. -/
theorem Sat.blk {B : Base} {E : Env} {w : World} (hs : Sat B E m w) (T : TypeId) {cells : List AV} {vs : Array Value} (h : Reps E cells vs.toList) (h1 : ∀ v, v ∈ vs.toList → v.oneCell' = true) :
    Sat B (E.bind (.pointer (some ⟨w.heap.size, 0, none⟩))) ((E.n, .blk T cells) :: m) (w.alloc (.cells vs T)) :=
  hs.new (old := []) (by simp) _ _ rfl rfl rfl (by simp) (fun b hb _ => heap_alloc_lt w _ hb) (fun b hb => by cases hb; exact ⟨.inr (Nat.le_refl _), by simp⟩)
    ⟨w.heap.size, vs, Env.bind_θ _ _, heap_alloc_at w _, h.mono (Env.bind_le _ _), h1⟩

theorem AL.box {d : Option Nat} {T : TypeId} {x : Operand} {pos : String} {after : Array Edge} {v : AV} {cells : List AV} (hx : evF f x = v) (hc : cellsOf v = cells) (hok : okCells v = true) (hin : oIn n x = true)
    (h : ∀ g, AL P n ops Q rest (updO f d (.ptr g 0)) ((g, .blk T cells) :: m)) : AL P n ops Q (⟨d, .box T x, ty, pos, after, none⟩ :: rest) f m := by
  refine AL.step rfl rfl fun B E w a hs => ?_
  have hr := evF_rep hs x (oIn_spec hin)
  rw [hx] at hr
  obtain ⟨hcs, h1⟩ := cells_rep hr hok
  rw [hc] at hcs
  refine ⟨.pointer (some ⟨w.heap.size, 0, none⟩), w.alloc (.cells (a.eval x).cells T), ?_, E.bind _, .ptr E.n 0, _, Env.bind_le _ _, hs.1.blk T hcs h1, .ptr _ _ _ (Nat.lt_succ_self _) (Env.bind_θ _ _), h E.n⟩
  simp [execOp, Instr.box, newVar, newRow]

theorem AL.alloc {d : Option Nat} {T : TypeId} {pos : String} {after : Array Edge} {z : AV} {cells : List AV} [hz : ZeroT P T z] (hc : cellsOf z = cells) (hok : okCells z = true)
    (h : ∀ g, AL P n ops Q rest (updO f d (.ptr g 0)) ((g, .blk T cells) :: m)) : AL P n ops Q (⟨d, .alloc T, ty, pos, after, none⟩ :: rest) f m := by
  refine AL.step rfl rfl fun B E w a hs => ?_
  obtain ⟨zv, hzv, hrz⟩ := hz.out
  obtain ⟨hcs, h1⟩ := cells_rep (hrz E) hok
  rw [hc] at hcs
  refine ⟨.pointer (some ⟨w.heap.size, 0, none⟩), w.alloc (.cells zv.cells T), ?_, E.bind _, .ptr E.n 0, _, Env.bind_le _ _, hs.1.blk T hcs h1, .ptr _ _ _ (Nat.lt_succ_self _) (Env.bind_θ _ _), h E.n⟩
  have hzr : (zeroValue T).run P w = .ok zv w := by
    cases hq : P.info? T with
    | none => simp [hq] at hzv
    | some i => simp [hq] at hzv; simp [zeroValue, typeInfo, hq, hzv]
  simp [execOp, Instr.alloc, hzr, newVar, newRow]

/-! ## Stores -/
/-- Cells from 'off' on are others. -/
def splice {α : Type} (cs : List α) (off : Nat) (vs : List α) : List α := cs.take off ++ vs ++ cs.drop (off + vs.length)
theorem Reps.splice {E : Env} {cs vs : List AV} {us xs : List Value} (h : Reps E cs us) (k : Reps E vs xs) (off : Nat) : Reps E (splice cs off vs) (splice us off xs) := by
  unfold V.splice
  rw [k.1]
  exact ((h.take off).append k).append (h.drop _)
theorem one_splice {us xs : List Value} (h : ∀ v, v ∈ us → v.oneCell' = true) (k : ∀ v, v ∈ xs → v.oneCell' = true) (off : Nat) : ∀ v, v ∈ splice us off xs → v.oneCell' = true := by
  intro v hv
  unfold splice at hv
  rcases List.mem_append.1 hv with hv | hv
  · rcases List.mem_append.1 hv with hv | hv
    · exact h v (List.mem_of_mem_take hv)
    · exact k v hv
  · exact h v (List.mem_of_mem_drop hv)
theorem setRow_other' (w : World) (g b : Nat) (cs : Array Value) (h : b ≠ g) : (w.setRow g cs).heap[b]? = w.heap[b]? := by
  simp only [World.setRow, Array.getElem?_modify]
  rw [if_neg (Ne.symm h)]

theorem AL.store_ptr {d : Option Nat} {T sz bytes : Nat} {ad x : Operand} {pos : String} {after : Array Edge} {g off T' : Nat} {cs cs' : List AV} {v : AV} {mr : M} [hz : Sz P T sz bytes] (ha : evF f ad = .ptr g off) (hx : evF f x = v)
    (hm : m.Perm ((g, .blk T' cs) :: mr)) (hsz : (cellsOf v).length = sz) (hok : okCells v = true) (hl : off + sz ≤ cs.length) (hc : splice cs off (cellsOf v) = cs') (hin : opsIn n (.store T ad x) = true)
    (h : AL P n ops Q rest (updO f d .undef) ((g, .blk T' cs') :: mr)) : AL P n ops Q (⟨d, .store T ad x, ty, pos, after, none⟩ :: rest) f m := by
  refine AL.skipStep rfl rfl fun B E w a hs => ?_
  have hra := evF_rep hs ad (opsIn_spec hin ad (by simp [Op.operands]))
  have hrx := evF_rep hs x (opsIn_spec hin x (by simp [Op.operands]))
  rw [ha] at hra
  rw [hx] at hrx
  subst hc
  obtain ⟨hcs, h1⟩ := cells_rep hrx hok
  obtain ⟨b, vs, hθ, hb, hrep, hone⟩ := (hs.1.perm hm).obj (g, .blk T' cs) (by simp)
  generalize hav : a.eval ad = u at hra
  cases hra with
  | ptr _ _ b' hg hθ' =>
    have : b = b' := by rw [show E.θ (g, AObj.blk T' cs).1 = E.θ g from rfl, hθ'] at hθ; simpa using hθ.symm
    subst this
    have hvl : (a.eval x).cells.toList.length = sz := by rw [hcs.1, hsz]
    have hst := run_storeCells_at P b off T' (a.eval x).cells.toList 0 vs w hb (by have := hrep.1; simp at this; simp at hvl; simp [this]; omega) h1
    simp only [Nat.add_zero] at hst
    refine ⟨w.setRow b (splice vs.toList off (a.eval x).cells.toList).toArray, ?_, E, _, Env.le.refl E, hs.1.put (o' := .blk T' _) hm rfl rfl rfl (by simp) (fun b' hb' hne => setRow_other' w b b' _ (fun e => hne (by rw [hθ', e]; rfl))) ⟨b, _, hθ', setRow_heap w b vs _ T' _ hb, by simpa using hrep.splice hcs off, by simpa using one_splice hone h1 off⟩, h⟩
    have hsize : (a.eval x).cells.size = sz := by simpa using hvl
    simp [execOp, hav, Instr.storeAt, Instr.sureAddr, storeVar, run_sizeOf, hsize, hst, splice]
end Go.V
