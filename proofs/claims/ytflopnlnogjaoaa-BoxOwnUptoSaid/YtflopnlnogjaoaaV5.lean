/- Owned slices: stores, literals, make, append; struct literals. -/
import Derived.Test.YtflopnlnogjaoaaV4
set_option linter.unusedVariables false
set_option linter.unusedSimpArgs false
namespace Go.V
open Go Go.RowKit

variable {P : Program} {n : Nat} {f : F} {m : M} {Q : AQ} {ops : Array Oper} {rest : List Oper} {ev : Operand → AV} {ty : TypeId}

/-! ## Lists -/
theorem splice_length {α : Type} (cs vs : List α) (off : Nat) (h : off + vs.length ≤ cs.length) : (splice cs off vs).length = cs.length := by
  unfold splice; simp; omega
theorem splice_left {α : Type} (a b vs : List α) (p : Nat) (h : p + vs.length ≤ a.length) : splice (a ++ b) p vs = splice a p vs ++ b := by
  unfold splice
  rw [List.take_append_of_le_length (by omega), List.drop_append_of_le_length h]
  simp
theorem splice_right {α : Type} (a b vs : List α) (q : Nat) : splice (a ++ b) (a.length + q) vs = a ++ splice b q vs := by
  unfold splice
  rw [List.take_length_add_append, Nat.add_assoc, List.drop_length_add_append]
  simp
theorem splice_take {α : Type} (cs vs : List α) (p N : Nat) (h : p + vs.length ≤ N) (hN : N ≤ cs.length) : (splice cs p vs).take N = splice (cs.take N) p vs := by
  have e : cs = cs.take N ++ cs.drop N := (List.take_append_drop N cs).symm
  have hl : (cs.take N).length = N := by simp; omega
  conv => lhs; rw [e]
  rw [splice_left _ _ _ _ (by rw [hl]; exact h)]
  have h2 : (splice (cs.take N) p vs).length = N := by rw [splice_length _ _ _ (by rw [hl]; exact h), hl]
  rw [List.take_append_of_le_length (by omega), List.take_of_length_le (by omega)]
theorem flatten_splice {α : Type} {sz off : Nat} (vs : List α) : ∀ {rows : List (List α)} {i : Nat} {r : List α}, (∀ r, r ∈ rows → r.length = sz) → rows[i]? = some r → off + vs.length ≤ sz →
    (rows.set i (splice r off vs)).flatten = splice rows.flatten (i * sz + off) vs
  | [], i, r, _, h, _ => by simp at h
  | r0 :: rows, 0, r, hs, h, ho => by
    simp at h
    subst h
    have := hs r0 (by simp)
    simp only [List.set_cons_zero, List.flatten_cons, Nat.zero_mul, Nat.zero_add]
    rw [splice_left _ _ _ _ (by omega)]
  | r0 :: rows, i + 1, r, hs, h, ho => by
    have h0 := hs r0 (by simp)
    have ih := flatten_splice vs (rows := rows) (i := i) (r := r) (fun r hr => hs r (by simp [hr])) (by simpa using h) ho
    simp only [List.set_cons_succ, List.flatten_cons, ih]
    have e : (i + 1) * sz + off = r0.length + (i * sz + off) := by rw [h0, Nat.add_mul]; omega
    rw [e, splice_right]

theorem AL.store_vptr {d : Option Nat} {T sz bytes : Nat} {ad x : Operand} {pos : String} {after : Array Edge} {g i z off T' : Nat} {rows : List (List AV)} {r r' : List AV} {v : AV} {mr : M} [hz : Sz P T sz bytes] (ha : evF f ad = .vptr g i z off) (hx : evF f x = v)
    (hm : m.Perm ((g, .vec T' z rows) :: mr)) (hi : rows[i]? = some r) (hsz : (cellsOf v).length = sz) (hok : okCells v = true) (hl : off + sz ≤ z) (hc : splice r off (cellsOf v) = r') (hin : opsIn n (.store T ad x) = true)
    (h : AL P n ops Q rest (updO f d .undef) ((g, .vec T' z (rows.set i r')) :: mr)) : AL P n ops Q (⟨d, .store T ad x, ty, pos, after, none⟩ :: rest) f m := by
  refine AL.skipStep rfl rfl fun B E w a hs => ?_
  have hra := evF_rep hs ad (opsIn_spec hin ad (by simp [Op.operands]))
  have hrx := evF_rep hs x (opsIn_spec hin x (by simp [Op.operands]))
  rw [ha] at hra
  rw [hx] at hrx
  subst hc
  obtain ⟨hcs, h1⟩ := cells_rep hrx hok
  obtain ⟨hrows, ⟨_, hnil⟩ | ⟨b, cap, cur, xs, hθ, hb, hle, hcm, hcur, htake, hrep, hone⟩⟩ := (hs.1.perm hm).obj (g, .vec T' z rows) (by simp)
  · subst hnil; simp at hi
  obtain ⟨fz, hfz, hb⟩ := hb
  generalize hav : a.eval ad = u at hra
  cases hra with
  | vptr _ _ _ _ b' len' cap' hg hθ' =>
    have hθ : E.θ g = _ := hθ
    rw [hθ'] at hθ
    simp at hθ
    obtain ⟨rfl, rfl, rfl⟩ := hθ
    have hvl : (a.eval x).cells.toList.length = sz := by rw [hcs.1, hsz]
    have hvl' : (a.eval x).cells.size = sz := by simpa using hvl
    obtain ⟨hlt, _⟩ := List.getElem?_eq_some_iff.1 hi
    have hmul : (i + 1) * z ≤ rows.length * z := Nat.mul_le_mul_right _ hlt
    rw [Nat.add_mul, Nat.one_mul] at hmul
    have hmul2 : rows.length * z ≤ cap' * z := Nat.mul_le_mul_right _ hle
    have hfit : i * z + off + sz ≤ cur.size := by omega
    have hst := run_storeCells_atU P b' (i * z + off) T' fz (a.eval x).cells.toList 0 cur w hb (by rw [hcur]; exact hfz) (by simp [hvl']; omega) h1
    simp only [Nat.add_zero] at hst
    have hlen' : (rows.set i (splice r off (cellsOf v))).length = rows.length := by simp
    refine ⟨w.setRow b' (splice cur.toList (i * z + off) (a.eval x).cells.toList).toArray, ?_, E, _, Env.le.refl E,
      hs.1.put (o' := .vec T' z (rows.set i (splice r off (cellsOf v)))) hm rfl rfl rfl (by simp) (fun b'' hb' hne => setRow_other' w b' b'' _ (fun e => hne (by rw [hθ', e]; rfl)))
        ⟨?_, .inr ⟨b', cap', _, _, by rw [hlen']; exact hθ', ⟨fz, hfz, setRow_heap w b' cur _ T' _ hb⟩, by rw [hlen']; exact hle, hcm, ?_, rfl, ?_, by simpa using one_splice hone h1 _⟩⟩, h⟩
    · simp [execOp, hav, Instr.storeAt, Instr.sureAddr, storeVar, run_sizeOf, hvl', hst, splice]
    · intro q hq
      rcases List.mem_or_eq_of_mem_set hq with hq | rfl
      · exact hrows q hq
      · rw [splice_length _ _ _ (by rw [hsz, hrows r (List.mem_of_getElem? hi)]; exact hl)]
        exact hrows r (List.mem_of_getElem? hi)
    · simp only [List.size_toArray]
      rw [splice_length _ _ _ (by simp [hvl']; omega)]
      simpa using hcur
    · rw [hlen']
      simp only []
      rw [splice_take _ _ _ _ (by rw [hvl]; omega) (by simp; omega), htake, flatten_splice _ hrows hi (by rw [hsz]; exact hl)]
      exact hrep.splice hcs _

/-! ## Literals -/
/-- 'Instr.fill', of abstract values. -/
def afill (place : Nat → Option (Nat × Nat)) (cells : List AV) : List (Nat × AV) → Option (List AV)
  | [] => some cells
  | (i, v) :: rest =>
    match place i with
    | none => none
    | some (off, size) =>
      if okCells v = true ∧ (cellsOf v).length = size ∧ off + size ≤ cells.length then afill place (splice cells off (cellsOf v)) rest else none
theorem foldl_splice (off : Nat) : ∀ (vs : List Value) (k : Nat) (cs : List Value), off + k + vs.length ≤ cs.length → (vs.zipIdx k).foldl (fun cs (x : Value × Nat) => cs.set (off + x.2) x.1) cs = splice cs (off + k) vs
  | [], k, cs, _ => by simp [splice]
  | v :: vs, k, cs, h => by
    simp only [List.length_cons] at h
    rw [List.zipIdx_cons, List.foldl_cons, foldl_splice off vs (k + 1) _ (by simp; omega)]
    have e := list_seg_step cs (off + k) v vs (by omega)
    simpa [splice, Nat.add_assoc] using e
theorem foldl_array (off : Nat) : ∀ (vs : List (Value × Nat)) (cs : Array Value), (vs.foldl (fun cs (x : Value × Nat) => cs.setIfInBounds (off + x.2) x.1) cs).toList = vs.foldl (fun cs (x : Value × Nat) => cs.set (off + x.2) x.1) cs.toList
  | [], cs => rfl
  | v :: vs, cs => by
    rw [List.foldl_cons, List.foldl_cons, foldl_array off vs]
    simp
theorem fill_rep {E : Env} {place : Nat → Option (Nat × Nat)} : ∀ {parts : List (Nat × AV)} {vparts : List (Nat × Value)} {cells cells' : List AV} {vs : Array Value}, Reps E cells vs.toList → (hl : vparts.length = parts.length) →
    (∀ (k : Nat) (p : Nat × AV) (q : Nat × Value), parts[k]? = some p → vparts[k]? = some q → p.1 = q.1 ∧ Rep E p.2 q.2) → afill place cells parts = some cells' → ∃ vs', Instr.fill place vs vparts = some vs' ∧ Reps E cells' vs'.toList
  | [], [], cells, cells', vs, h, _, _, ha => by
    simp only [afill, Option.some.injEq] at ha
    subst ha
    exact ⟨vs, rfl, h⟩
  | [], q :: qs, _, _, _, _, hl, _, _ => by simp at hl
  | p :: ps, [], _, _, _, _, hl, _, _ => by simp at hl
  | (i, v) :: ps, (i', x) :: qs, cells, cells', vs, h, hl, hp, ha => by
    obtain ⟨he, hr⟩ := hp 0 (i, v) (i', x) rfl rfl
    simp only at he hr
    subst he
    simp only [afill] at ha
    split at ha
    · cases ha
    rename_i off size hplace
    split at ha
    · rename_i hc
      obtain ⟨h1, h2, h3⟩ := hc
      obtain ⟨hcs, _⟩ := cells_rep hr h1
      have hxs : x.cells.toList.length = size := by rw [hcs.1, h2]
      have hxs' : x.cells.size = size := by simpa using hxs
      have hvs : vs.size = cells.length := by simpa using h.1
      have hf : (x.cells.zipIdx.foldl (fun cs (y : Value × Nat) => cs.setIfInBounds (off + y.2) y.1) vs).toList = splice vs.toList off x.cells.toList := by
        rw [← Array.foldl_toList, foldl_array, Array.toList_zipIdx]
        have := foldl_splice off x.cells.toList 0 vs.toList (by simp [hxs', hvs]; omega)
        simpa using this
      obtain ⟨vs', hv', hrep⟩ := fill_rep (vs := (x.cells.zipIdx.foldl (fun cs (y : Value × Nat) => cs.setIfInBounds (off + y.2) y.1) vs)) (vparts := qs) (parts := ps) (by rw [hf]; exact h.splice hcs off) (by simpa using hl) (fun k p q hk hk' => hp (k + 1) p q (by simpa using hk) (by simpa using hk')) ha
      refine ⟨vs', ?_, hrep⟩
      simp only [Instr.fill, hplace]
      rw [if_neg (by simp [hxs', hvs]; omega)]
      exact hv'
    · cases ha

/-- Where a struct's fields lie. -/
class PlacesT (P : Program) (t : TypeId) (pl : outParam (List (Nat × Nat))) : Prop where
  out : ∃ fs, P.underlying t = some (.struct fs) ∧ (fs.toList.map fun (f : Field) => ((P.info? f.type).map (·.size)).map fun s => (f.offset, s)) = pl.map some
theorem run_places {fs : List Field} {pl : List (Nat × Nat)} (h : (fs.map fun (f : Field) => ((P.info? f.type).map (·.size)).map fun s => (f.offset, s)) = pl.map some) (w : World) :
    (fs.mapM (fun (f : Field) => do pure (f.offset, ← sizeOf f.type))).run P w = .ok pl w := by
  induction fs generalizing pl with
  | nil =>
    cases pl with
    | nil => simp
    | cons => simp at h
  | cons f fs ih =>
    cases pl with
    | nil => simp at h
    | cons p pl =>
      simp only [List.map_cons, List.cons.injEq] at h
      have hs : ∃ i, P.info? f.type = some i ∧ p = (f.offset, i.size) := by
        cases hq : P.info? f.type with
        | none => simp [hq] at h
        | some i => refine ⟨i, rfl, ?_⟩; have := h.1; simp [hq] at this; exact this.symm
      obtain ⟨i, hi, rfl⟩ := hs
      have ih' := ih h.2
      have hsz : (sizeOf f.type).run P w = .ok i.size w := by simp [sizeOf, typeInfo, hi]
      rw [List.mapM_cons]
      simp only [Sem.run_bind, hsz, Result.andThen_ok, Sem.run_pure, ih']
theorem op_build {t : TypeId} {parts : Array (Nat × Operand)} {aparts : List (Nat × AV)} {z : AV} {pl : List (Nat × Nat)} {cells : List AV} [hp : PlacesT P t pl] [hz : ZeroT P t z] (hpa : parts.toList.map (fun p => (p.1, ev p.2)) = aparts)
    (hzok : okCells z = true) (ha : afill (fun i => pl[i]?) (cellsOf z) aparts = some cells) : AOp P m (.build t parts) ty ev (.agg cells) :=
  .of fun E ρ o ho _ hr => by
    subst hpa
    obtain ⟨fs, hu, hpl⟩ := hp.out
    obtain ⟨zv, hzv, hrz⟩ := hz.out
    obtain ⟨hcs, _⟩ := cells_rep (hrz E) hzok
    obtain ⟨vs', hv', hrep⟩ := fill_rep (E := E) (place := fun i => pl[i]?) (vs := zv.cells) (parts := parts.toList.map (fun p => (p.1, ev p.2))) (vparts := parts.toList.map (fun p => (p.1, ρ p.2))) hcs (by simp) (fun k p q hk hk' => by
      simp only [List.getElem?_map, Option.map_eq_some_iff] at hk hk'
      obtain ⟨a, ha1, rfl⟩ := hk
      obtain ⟨b, hb1, rfl⟩ := hk'
      rw [ha1] at hb1
      cases hb1
      exact ⟨rfl, hr _ (by simp only [Op.operands]; simp; exact ⟨a.1, by simpa using List.mem_of_getElem? ha1⟩)⟩) ha
    refine ⟨.agg vs', .agg _ _ (by simpa using hrep.1) (fun i hi => ?_), fun w => ?_⟩
    · have := hrep.2 i hi
      simpa [Array.getD_eq_getD_getElem?, List.getD_eq_getElem?_getD] using this
    · have hzr : (zeroValue t).run P w = .ok zv w := by
        cases hq : P.info? t with
        | none => simp [hq] at hzv
        | some i => simp [hq] at hzv; simp [zeroValue, typeInfo, hq, hzv]
      have hpr := run_places hpl w
      have : (Instr.build t (parts.map fun (i, x) => (i, ρ x))).run P w = .ok (.agg vs') w := by
        unfold Instr.build
        simp only [Sem.run_bind, hzr, Result.andThen_ok, run_underlying hu]
        rw [← Array.toArray_toList (xs := fs), List.mapM_toArray, Sem.run_map, hpr]
        simp only [Result.andThen_ok, List.getElem?_toArray, Array.toList_map]
        rw [hv']
        rfl
      simp [execOp, ho, this]
end Go.V
