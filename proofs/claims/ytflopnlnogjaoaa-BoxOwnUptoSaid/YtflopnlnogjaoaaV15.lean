/- Literals of bytes; arrays compared. -/
import Derived.Test.YtflopnlnogjaoaaV14
import Derived.ChangeKeysEq
set_option linter.unusedVariables false
set_option linter.unusedSimpArgs false
namespace Go.V
open Go Go.RowKit

variable {P : Program} {n : Nat} {f : F} {m mr : M} {Q : AQ} {ops : Array Oper} {rest : List Oper} {ty : TypeId} {ev : Operand → AV}

/-- An owned slice is frozen while its block is marked. -/
theorem Sat.freezeTo {B : Base} {E : Env} {w w' : World} {g T sz b cap : Nat} {rows : List (List AV)} {mr : M} {cur : Array Value} {fr : Nat × Nat} (hs : Sat B E m w) (hm : m.Perm ((g, .vec T sz rows) :: mr)) (c : Nat)
    (hθ : E.θ g = .slice (some ⟨b, 0, none⟩) rows.length cap) {fr0 : Nat × Nat} (hb : w.heap[b]? = some (.cells cur T fr0)) (hb' : w'.heap[b]? = some (.cells cur T fr)) (hos : w'.os = w.os) (htape : w'.tape = w.tape) (hout : w'.output = w.output) (hsize : w'.heap.size = w.heap.size)
    (hkeep : ∀ b', b' ≠ b → w'.heap[b']? = w.heap[b']?) : ∃ E', Env.le E E' ∧ Sat B E' mr w' ∧ Rep E' (.sl c sz rows) (E.θ g) := by
  have h := hs.perm hm
  have hblk : blkOf (E.θ g) = some b := by rw [hθ]; rfl
  have hown := h.own (g, .vec T sz rows) (by simp) b hblk
  have hle := E.freeze_le (o := .cells cur T fr) (hown.1 c)
  have hK : Kof E [(g, .vec T sz rows)] b := ⟨_, List.mem_singleton.2 rfl, hblk⟩
  have k : Sat (baseOf E [(g, .vec T sz rows)] w) (E.freeze c b (.cells cur T fr)) [] w' := by
    refine { os := hos, tape := htape, output := hout, size := Nat.le_of_eq hsize.symm, keep := fun b1 _ hn => hkeep b1 (fun e => hn (e ▸ hK)), le := hle, gro := ?_, imm := ?_, obj := (fun p hp => by cases hp), own := (fun p hp => by cases hp), sep := .nil, lt := (fun p hp => by cases hp), nm := (fun p hp => by cases hp) }
    · intro c1 b1 o1 ho
      change (if c1 = c ∧ b1 = b then some _ else E.I c1 b1) = some o1 at ho
      split at ho
      · rename_i hc; exact .inr (.inr (hc.2 ▸ hK))
      · exact .inl ho
    · intro c1 b1 o1 ho
      change (if c1 = c ∧ b1 = b then some _ else E.I c1 b1) = some o1 at ho
      split at ho
      · rename_i hc
        rw [hc.2, hb']; exact ho
      · have hne : b1 ≠ b := fun e => by rw [e, hown.1 c1] at ho; cases ho
        rw [hkeep b1 hne]
        exact h.imm c1 b1 o1 ho
  have hres := hs.back (ms := [(g, .vec T sz rows)]) (mr := mr) hm k
  refine ⟨_, hle, by simpa using hres, ?_⟩
  obtain ⟨hsz, ⟨hθ1, hnil⟩ | ⟨b1, cap1, cur1, xs, hθ1, hb1, hlec, hcm, hcur, htake, hrep, hone⟩⟩ := h.obj (g, .vec T sz rows) (by simp)
  · have hθ1 : E.θ g = _ := hθ1
    rw [hθ1] at hθ; cases hθ
  · have hθ1 : E.θ g = _ := hθ1
    rw [hθ1] at hθ
    simp at hθ
    obtain ⟨rfl, rfl⟩ := hθ
    obtain ⟨fz, hfz, hb1⟩ := hb1
    rw [hb] at hb1
    cases hb1
    rw [hθ1]
    have hmulc : rows.length * sz ≤ cap1 * sz := Nat.mul_le_mul_right _ hlec
    refine .sl c sz rows b1 0 cap1 cur T fr (fun j => cur.getD j undef) (by show (if c = c ∧ b1 = b1 then some _ else E.I c b1) = _; rw [if_pos ⟨rfl, rfl⟩]) hlec hcm hsz (fun j hj => ?_) (fun j hj => ?_) (fun i hi j hj => ?_)
    · have : j < cur.size := by omega
      simp [Array.getD_eq_getD_getElem?, this]
    · have hjc : j < cur.size := by omega
      refine hone _ ?_
      simp [Array.getD_eq_getD_getElem?, hjc]
    · have hj' : j < sz := by rw [← hsz _ (List.getElem_mem hi)]; exact hj
      have hg := flatten_get hsz (i := i) (r := rows[i]) (by simp [hi]) hj'
      rw [List.getElem?_eq_getElem hj] at hg
      obtain ⟨v, hv, hr⟩ := hrep.get hg
      rw [← htake, List.getElem?_take] at hv
      split at hv
      · have : cur.getD (i * sz + j) undef = v := by simpa [Array.getD_eq_getD_getElem?] using congrArg (Option.getD · undef) hv
        rw [this]
        exact hr.mono hle
      · cases hv
/-- How a block is marked behind its last cell. -/
theorem mark_at {w : World} {b k : Nat} {cur : Array Value} {T : TypeId} {fr : Nat × Nat} (hb : w.heap[b]? = some (.cells cur T fr)) (hk : k = cur.size) (hfr : fr = (0, 0) ∨ cur.size ≤ fr.1) : ∃ fr' : Nat × Nat, (fr' = (0, 0) ∨ cur.size ≤ fr'.1) ∧ (w.freeze ⟨b, k, none⟩ 1).heap[b]? = some (.cells cur T fr') := by
  subst hk
  unfold World.freeze
  rw [if_neg (by decide)]
  obtain ⟨lo, hi⟩ := fr
  simp only [Array.getElem?_modify, if_true, hb, Option.map_some]
  refine ⟨_, ?_, rfl⟩
  right
  split
  · exact Nat.le_refl _
  · rename_i hne
    rcases hfr with h | h
    · simp only [Prod.mk.injEq] at h; rw [h.1, h.2] at hne; exact absurd rfl hne
    · exact Nat.le_min.2 ⟨h, Nat.le_refl _⟩
theorem mark_other {w : World} {b b' k : Nat} (h : b' ≠ b) : (w.freeze ⟨b, k, none⟩ 1).heap[b']? = w.heap[b']? := by
  unfold World.freeze
  rw [if_neg (by decide)]
  simp only [Array.getElem?_modify, if_neg (Ne.symm h)]
theorem mark_size {w : World} {b k : Nat} : (w.freeze ⟨b, k, none⟩ 1).heap.size = w.heap.size := by
  unfold World.freeze
  rw [if_neg (by decide)]
  simp
theorem mark_rest {w : World} {b k : Nat} : (w.freeze ⟨b, k, none⟩ 1).os = w.os ∧ (w.freeze ⟨b, k, none⟩ 1).tape = w.tape ∧ (w.freeze ⟨b, k, none⟩ 1).output = w.output := by
  unfold World.freeze
  rw [if_neg (by decide)]
  exact ⟨rfl, rfl, rfl⟩
/-- A literal of bytes, as the translation has it: its block is marked. -/
theorem AL.bytesSame {d : Option Nat} {pos : String} {after : Array Edge} {t e g T : Nat} {x : Operand} {rows : List (List AV)} [hbt : ByteT P t e] [hh : Tk m g (.vec T 1 rows) mr] (hx : evF f x = .vec g) (hin : oIn n x = true) (hne : rows ≠ [])
    (h : AL P n ops Q rest (updO f d (.vec g)) ((g, .vec T 1 rows) :: mr)) : AL P n ops Q (⟨d, .convert t t x, ty, pos, after, none⟩ :: rest) f m := by
  refine AL.step rfl rfl fun B E w a hs => ?_
  have hm := hh.out
  have hr := evF_rep hs x (oIn_spec hin)
  rw [hx] at hr
  obtain ⟨hsz, ⟨hθ, hnil⟩ | ⟨b, cap, cur, xs, hθ, ⟨fr, hfr, hb⟩, hlec, hcm, hcur, htake, hrep, hone⟩⟩ := (hs.1.perm hm).obj (g, .vec T 1 rows) (by simp)
  · exact absurd hnil hne
  have hθ : E.θ g = _ := hθ
  have hblk : blkOf (E.θ g) = some b := by rw [hθ]; rfl
  have hu : a.eval x = .slice (some ⟨b, 0, none⟩) rows.length cap := by
    generalize a.eval x = u at hr
    cases hr; exact hθ
  have hsh : w.shape? b = some (T, cur.size) := by unfold World.shape?; rw [hb]
  obtain ⟨fr', hfr', hb'⟩ := mark_at (k := cur.size) hb rfl (by rwa [hcur])
  have hput := hs.1.put (w' := w.freeze ⟨b, cur.size, none⟩ 1) (o' := .vec T 1 rows) hm mark_rest.1 mark_rest.2.1 mark_rest.2.2 (Nat.le_of_eq mark_size.symm) (fun b'' _ hne => mark_other (fun e => hne (by rw [hblk, e])))
    ⟨hsz, .inr ⟨b, cap, cur, xs, hθ, ⟨fr', by rwa [hcur] at hfr', hb'⟩, hlec, hcm, hcur, htake, hrep, hone⟩⟩
  refine ⟨.slice (some ⟨b, 0, none⟩) rows.length cap, _, ?_, E, .vec g, _, Env.le.refl E, hput, by rw [← hu]; exact hr, h⟩
  have hrun : (convert t t (.slice (some ⟨b, 0, none⟩) rows.length cap)).run P w = .ok (.slice (some ⟨b, 0, none⟩) rows.length cap) (w.freeze ⟨b, cur.size, none⟩ 1) := by
    simp [convert, run_underlying hbt.out.1, run_underlying hbt.out.2, markStringish, hsh]
  simp [execOp, hu, hrun]
/-- A string's bytes, in new memory. -/
theorem AL.s2b {d : Option Nat} {pos : String} {after : Array Edge} {src dst e : Nat} {x : Operand} {s : List UInt8} [hb : ByteT P dst e] [hst : StrT P src] (hx : evF f x = .str s) (hin : oIn n x = true) (hl : s.length ≤ 140737488355328)
    (h : ∀ g, AL P n ops Q rest (updO f d (.vec g)) ((g, .vec e 1 (s.map fun b => [byteAV b])) :: m)) : AL P n ops Q (⟨d, .convert src dst x, ty, pos, after, none⟩ :: rest) f m := by
  refine AL.step rfl rfl fun B E w a hs => ?_
  have hr := evF_rep hs x (oIn_spec hin)
  rw [hx] at hr
  have hu : a.eval x = .string (Bs s) := by
    generalize a.eval x = u at hr
    cases hr; rfl
  have hml : s.length ≤ maxLen := by unfold maxLen; omega
  have hge := grownCap_ge w s.length 0 e
  have hcap := grownCap_le_maxLen w s.length 0 e hml
  generalize hnc : grownCap w s.length 0 e = nc at hge hcap
  have hxs : ((s.map fun b => Value.int .u8 b.toNat).toArray ++ Array.replicate (nc - s.length) (Value.int .u8 0)).toList = (s.map fun b => Value.int .u8 b.toNat) ++ List.replicate (nc - s.length) (Value.int .u8 0) := by simp
  have hsize : ((s.map fun b => Value.int .u8 b.toNat).toArray ++ Array.replicate (nc - s.length) (Value.int .u8 0)).size = nc := by simp; omega
  have hone : ∀ v, v ∈ ((s.map fun b => Value.int .u8 b.toNat).toArray ++ Array.replicate (nc - s.length) (Value.int .u8 0)).toList → v.oneCell' = true := by
    intro v hv
    rw [hxs] at hv
    rcases List.mem_append.1 hv with hv | hv
    · obtain ⟨b, _, rfl⟩ := List.mem_map.1 hv; rfl
    · rw [List.eq_of_mem_replicate hv]; rfl
  have hreps : ∀ l : List UInt8, Reps E (l.map fun b => byteAV b) (l.map fun b => Value.int .u8 b.toNat) := fun l => by
    induction l with
    | nil => exact .nil E
    | cons b l ih => exact .cons (.int _ _) ih
  have hrow := hs.1.row (old := []) (mr := m) (w := w.drew) (by simp) rfl rfl rfl rfl e (sz := 1) (cap := nc) (rows := s.map fun b => [byteAV b]) (vs := (s.map fun b => Value.int .u8 b.toNat).toArray ++ Array.replicate (nc - s.length) (Value.int .u8 0)) (xs := s.map fun b => Value.int .u8 b.toNat)
    (fun r hr => by obtain ⟨b, _, rfl⟩ := List.mem_map.1 hr; rfl) (by rw [hxs, List.length_map, Nat.mul_one]; exact List.take_left' (by simp)) (by rw [flatten_single]; exact hreps s) hone (by simpa using hge) hcap (by rw [hsize, Nat.mul_one])
  have hwd : w.drew.heap.size = w.heap.size := rfl
  rw [List.length_map, hwd] at hrow
  have hblk : blkOf ((E.bind (.slice (some ⟨w.heap.size, 0, none⟩) s.length nc)).θ E.n) = some w.heap.size := by rw [Env.bind_θ]; rfl
  have hat : (w.drew.alloc (.cells ((s.map fun b => Value.int .u8 b.toNat).toArray ++ Array.replicate (nc - s.length) (Value.int .u8 0)) e)).heap[w.heap.size]? = some (.cells ((s.map fun b => Value.int .u8 b.toNat).toArray ++ Array.replicate (nc - s.length) (Value.int .u8 0)) e (0, 0)) := heap_alloc_at w.drew _
  obtain ⟨fr', hfr', hb'⟩ := mark_at (k := nc) hat hsize.symm (.inl rfl)
  rw [hsize] at hfr'
  have hput := hrow.put (w' := (w.drew.alloc (.cells ((s.map fun b => Value.int .u8 b.toNat).toArray ++ Array.replicate (nc - s.length) (Value.int .u8 0)) e)).freeze ⟨w.heap.size, nc, none⟩ 1) (o' := .vec e 1 (s.map fun b => [byteAV b])) (List.Perm.refl _) mark_rest.1 mark_rest.2.1 mark_rest.2.2 (Nat.le_of_eq mark_size.symm) (fun b'' _ hne => mark_other (fun e => hne (by rw [hblk, e])))
    ⟨(fun r hr => by obtain ⟨b, _, rfl⟩ := List.mem_map.1 hr; rfl), .inr ⟨w.heap.size, nc, _, s.map fun b => Value.int .u8 b.toNat, by rw [Env.bind_θ, List.length_map], ⟨fr', by simpa using hfr', hb'⟩, by simpa using hge, hcap, by rw [hsize, Nat.mul_one], by rw [hxs, List.length_map, Nat.mul_one]; exact List.take_left' (by simp), by rw [flatten_single]; exact (hreps s).mono (Env.bind_le _ _), hone⟩⟩
  refine ⟨.slice (some ⟨w.heap.size, 0, none⟩) s.length nc, _, ?_, _, .vec E.n, _, Env.bind_le _ _, hput, ?_, h E.n⟩
  · have hsz : (Bs s).size = s.length := Bs_size s
    have hsh : (w.drew.alloc (.cells ((s.map fun b => Value.int .u8 b.toNat).toArray ++ Array.replicate (nc - s.length) (Value.int .u8 0)) e)).shape? w.heap.size = some (e, nc) := by unfold World.shape?; rw [hat]; simp only [hsize]
    have hcut : (Question.appendCap s.length 0 e).cut (w.tape w.drawn (.appendCap s.length 0 e)) = nc := hnc
    have hmap : (Bs s).data.map (fun b => Value.int .u8 b.toNat) = (s.map fun b => Value.int .u8 b.toNat).toArray := by simp [Bs]
    have hrun : (convert src dst (.string (Bs s))).run P w = .ok (.slice (some ⟨w.heap.size, 0, none⟩) s.length nc) ((w.drew.alloc (.cells ((s.map fun b => Value.int .u8 b.toNat).toArray ++ Array.replicate (nc - s.length) (Value.int .u8 0)) e)).freeze ⟨w.heap.size, nc, none⟩ 1) := by
      simp [convert, run_underlying hst.out, run_underlying hb.out.1, run_underlying hb.out.2, Conv.stringToBytes, Question.forced, hsz, hcut, hmap, newRow, markStringish, hsh]
    simp [execOp, hu, hrun]
  · have := Rep.vec (E := E.bind (.slice (some ⟨w.heap.size, 0, none⟩) s.length nc)) E.n (Nat.lt_succ_self _) (by rw [Env.bind_θ]; rfl)
    rw [Env.bind_θ] at this
    exact this
/-! ## Arrays of whole numbers, compared -/
theorem run_part_int {e sz : Nat} [ha : AggT P e false] {k : IntKind} (xs : List Int) (j : Nat) (h : j < xs.length) (w : World) : (part e (xs.map (Value.int k)).toArray j).run P w = .ok (.int k xs[j]) w := by
  have hag : (isAgg e).run P w = .ok false w := by
    have := ha.out
    cases hq : P.underlying e with
    | none => simp [hq] at this
    | some d => simp [hq] at this; simp [isAgg, run_underlying hq]; cases d <;> simp_all
  simp [part, hag, h]
theorem run_eqItems_int {e sz bytes : Nat} {k k' : IntKind} [ha : AggT P e false] [hi : IntT P e k'] (d : Nat) (xs ys : List Int) (w : World) : ∀ (c s : Nat), s + c ≤ xs.length → xs.length = ys.length →
    (Op.eqItems (d + 1) e 1 (xs.map (Value.int k)).toArray (ys.map (Value.int k)).toArray (List.range' s c)).run P w = .ok ((xs.drop s).take c == (ys.drop s).take c) w
  | 0, s, h, hl => by simp [Op.eqItems]
  | c + 1, s, h, hl => by
    have h1 : s < xs.length := by omega
    have h2 : s < ys.length := by omega
    have ih := run_eqItems_int (e := e) (sz := sz) (bytes := bytes) (k := k) (k' := k') d xs ys w c (s + 1) (by omega) hl
    rw [List.range'_succ]
    simp only [Op.eqItems, Sem.run_bind, Nat.mul_one, run_part_int (sz := 1) xs s h1, run_part_int (sz := 1) ys s h2, Result.andThen_ok, run_equalIn_int w d e k k' _ _ hi.out]
    rw [List.drop_eq_getElem_cons h1, List.drop_eq_getElem_cons h2, List.take_succ_cons, List.take_succ_cons]
    by_cases he : xs[s] = ys[s]
    · simp [he, ih]
    · have : (xs[s] == ys[s]) = false := by simpa using he
      simp [this, he]
theorem reps_ints {E : Env} {k : IntKind} : ∀ {l : List Int} {vs : List Value}, Reps E (l.map (AV.int k)) vs → vs = l.map (Value.int k)
  | [], vs, h => h.nil_inv
  | b :: l, vs, h => by
    obtain ⟨v, r, rfl, hv, hr⟩ := h.cons_inv
    rw [reps_ints hr, int_inv hv]; rfl
theorem op_eqA {t yt e n bytes : Nat} {k k' : IntKind} {x y : Operand} (xs ys : List Int) [ht : ArrT P t n e] [hsz : Sz P e 1 bytes] [AggT P e false] [IntT P e k'] (hg : P.eqGuardType P.depth t = false) (hx : ev x = .agg (xs.map (AV.int k))) (hy : ev y = .agg (ys.map (AV.int k))) (hl : xs.length = n) (hl2 : ys.length = n) :
    AOp P m (.binOp .eql t x y yt) ty ev (.bool (xs == ys)) :=
  .of fun E ρ o ho _ hr => by
    have h1 := hx ▸ hr x (by simp [Op.operands])
    have h2 := hy ▸ hr y (by simp [Op.operands])
    obtain ⟨v1, e1, r1⟩ := Rep.agg_iff.1 h1
    obtain ⟨v2, e2, r2⟩ := Rep.agg_iff.1 h2
    have q1 : v1 = (xs.map (Value.int k)).toArray := by rw [← reps_ints r1]
    have q2 : v2 = (ys.map (Value.int k)).toArray := by rw [← reps_ints r2]
    refine ⟨.bool (xs == ys), .bool _, fun w => ?_⟩
    obtain ⟨i, hi, hsi⟩ : ∃ i, P.info? e = some i ∧ i.size = 1 := by
      have := hsz.out
      cases hq : P.info? e with
      | none => simp [hq] at this
      | some i => simp [hq] at this; exact ⟨i, rfl, this.1⟩
    have hc : P.cellsOf e = 1 := by simp [Program.cellsOf, hi, hsi]
    have heq : (Op.equal t (.agg v1) (.agg v2)).run P w = .ok (xs == ys) w := by
      show (Op.equalIn (9998 + 1 + 1) t _ _).run P w = _
      rw [run_equalIn_array w (9998 + 1) v1 v2 ht.out hi, hc, q1, q2, List.range_eq_range', run_eqItems_int (sz := 1) (bytes := bytes) (k' := k') 9998 xs ys w n 0 (by omega) (by omega)]
      simp [List.take_of_length_le (Nat.le_of_eq hl), List.take_of_length_le (Nat.le_of_eq hl2)]
    have hrun : (binOp .eql t (.agg v1) (.agg v2)).run P w = .ok (.bool (xs == ys)) w := by
      show (do pure (Value.bool (← Op.equal t (.agg v1) (.agg v2)))).run P w = _
      simp only [Sem.run_bind, heq, Result.andThen_ok, Sem.run_pure]
    have hgd : (eqGuard .eql t x y (.agg v1) (.agg v2)).run P w = .ok () w := by
      simp [eqGuard, hg]
    simp only [execOp, ho, e1, e2, Sem.run_bind, hgd, hrun, Result.andThen_ok, Sem.run_pure]
end Go.V
