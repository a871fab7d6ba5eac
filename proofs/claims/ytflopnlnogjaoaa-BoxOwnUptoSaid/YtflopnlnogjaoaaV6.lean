/- Slices that are made, append, lengths, cuts, conversions; what may be forgotten. -/
import Derived.Test.YtflopnlnogjaoaaV5
set_option linter.unusedVariables false
set_option linter.unusedSimpArgs false
namespace Go.V
open Go Go.RowKit

variable {P : Program} {n : Nat} {f : F} {m : M} {Q : AQ} {ops : Array Oper} {rest : List Oper} {ev : Operand → AV} {ty : TypeId}

/-- A new row, under a new name. -/
theorem Sat.row {B : Base} {E : Env} {old mr : M} {w w0 : World} (hs : Sat B E m w0) (hm : m.Perm (old ++ mr)) (hw : w.heap = w0.heap) (hos : w.os = w0.os) (htape : w.tape = w0.tape) (hout : w.output = w0.output) (T : TypeId) {sz cap : Nat} {rows : List (List AV)} {vs : Array Value} {xs : List Value} (hr : ∀ r, r ∈ rows → r.length = sz)
    (hx : vs.toList.take (rows.length * sz) = xs) (h : Reps E rows.flatten xs) (h1 : ∀ v, v ∈ vs.toList → v.oneCell' = true) (hc : rows.length ≤ cap) (hcm : cap ≤ maxLen) (hvs : vs.size = cap * sz) :
    Sat B (E.bind (.slice (some ⟨w.heap.size, 0, none⟩) rows.length cap)) ((E.n, .vec T sz rows) :: mr) (w.alloc (.cells vs T)) :=
  hs.new (old := old) hm _ _ hos htape hout (by simp [hw]) (fun b hb _ => by rw [heap_alloc_lt w _ (by rw [hw]; exact hb), hw]) (fun b hb => by cases hb; exact ⟨.inr (by rw [hw]; exact Nat.le_refl _), by simp⟩)
    ⟨hr, .inr ⟨w.heap.size, cap, vs, xs, Env.bind_θ _ _, ⟨(0, 0), .inl rfl, heap_alloc_at w _⟩, hc, hcm, hvs, hx, h.mono (Env.bind_le _ _), h1⟩⟩

/-! ## A literal slice -/
/-- Cells, cut into rows. -/
def chunk (sz : Nat) : Nat → List AV → List (List AV)
  | 0, _ => []
  | k + 1, cs => cs.take sz :: chunk sz k (cs.drop sz)
theorem chunk_flatten (sz : Nat) : ∀ (k : Nat) (cs : List AV), cs.length = k * sz → (chunk sz k cs).flatten = cs
  | 0, cs, h => by simp at h; simp [chunk, h]
  | k + 1, cs, h => by
    rw [chunk, List.flatten_cons, chunk_flatten sz k _ (by rw [List.length_drop, h, Nat.add_mul]; omega)]
    simp
theorem chunk_length (sz : Nat) : ∀ (k : Nat) (cs : List AV), (chunk sz k cs).length = k
  | 0, _ => rfl
  | k + 1, cs => by simp [chunk, chunk_length sz k]
theorem chunk_sz (sz : Nat) : ∀ (k : Nat) (cs : List AV), cs.length = k * sz → ∀ r, r ∈ chunk sz k cs → r.length = sz
  | 0, cs, h, r, hr => by simp [chunk] at hr
  | k + 1, cs, h, r, hr => by
    simp only [chunk, List.mem_cons] at hr
    rcases hr with rfl | hr
    · rw [List.length_take, h, Nat.add_mul]; omega
    · exact chunk_sz sz k _ (by rw [List.length_drop, h, Nat.add_mul]; omega) r hr

theorem afill_length {place : Nat → Option (Nat × Nat)} : ∀ {parts : List (Nat × AV)} {cells cells' : List AV}, afill place cells parts = some cells' → cells'.length = cells.length
  | [], cells, cells', h => by simp only [afill, Option.some.injEq] at h; rw [h]
  | (i, v) :: ps, cells, cells', h => by
    simp only [afill] at h
    split at h
    · cases h
    · split at h
      · rename_i hc
        rw [afill_length h, splice_length _ _ _ (by rw [hc.2.1]; exact hc.2.2)]
      · cases h
theorem afill_cell {place : Nat → Option (Nat × Nat)} : ∀ {parts : List (Nat × AV)} {cells cells' : List AV}, (∀ a, a ∈ cells → a.isCell = true) → afill place cells parts = some cells' → ∀ a, a ∈ cells' → a.isCell = true
  | [], cells, cells', h0, h => by simp only [afill, Option.some.injEq] at h; rw [← h]; exact h0
  | (i, v) :: ps, cells, cells', h0, h => by
    simp only [afill] at h
    split at h
    · cases h
    · split at h
      · rename_i hc
        refine afill_cell (fun a ha => ?_) h
        unfold splice at ha
        rcases List.mem_append.1 ha with ha | ha
        · rcases List.mem_append.1 ha with ha | ha
          · exact h0 a (List.mem_of_mem_take ha)
          · exact List.all_eq_true.1 hc.1 a ha
        · exact h0 a (List.mem_of_mem_drop ha)
      · cases h

theorem AL.buildSlice {d : Option Nat} {t e sz bytes len : Nat} {parts : Array (Nat × Operand)} {aparts : List (Nat × AV)} {z : AV} {cells : List AV} {rows : List (List AV)} {pos : String} {after : Array Edge} [ht : SliceT P t e] [hsz : Sz P e sz bytes] [hz : ZeroT P e z]
    (hpa : parts.toList.map (fun p => (p.1, evF f p.2)) = aparts) (hzl : (cellsOf z).length = sz) (hzok : okCells z = true) (hpos : 0 < sz) (hlen : len * sz ≤ 16777216)
    (ha : afill (fun i => some (i * sz, sz)) ((List.replicate len (cellsOf z)).flatten) aparts = some cells) (hrows : chunk sz len cells = rows) (hin : opsIn n (.buildSlice t len parts) = true)
    (h : ∀ g, AL P n ops Q rest (updO f d (.vec g)) ((g, .vec e sz rows) :: m)) : AL P n ops Q (⟨d, .buildSlice t len parts, ty, pos, after, none⟩ :: rest) f m := by
  refine AL.step rfl rfl fun B E w a hs => ?_
  subst hpa; subst hrows
  obtain ⟨zv, hzv, hrz⟩ := hz.out
  obtain ⟨hcs, hz1⟩ := cells_rep (hrz E) hzok
  have hzs : zv.cells.size = sz := by have := hcs.1; simpa [hzl] using this
  have hzr : (zeroValue e).run P w = .ok zv w := by
    cases hq : P.info? e with
    | none => simp [hq] at hzv
    | some i => simp [hq] at hzv; simp [zeroValue, typeInfo, hq, hzv]
  have hbase : ∀ k, Reps E ((List.replicate k (cellsOf z)).flatten) ((List.replicate k zv.cells.toList).flatten) := by
    intro k
    induction k with
    | zero => exact .nil E
    | succ k ih => rw [List.replicate_succ, List.replicate_succ, List.flatten_cons, List.flatten_cons]; exact hcs.append ih
  have hinit : ((Array.range (len * sz)).map (zv.cells[· % zv.cells.size]!)).toList = (List.replicate len zv.cells.toList).flatten := by
    rw [hzs]
    apply List.ext_getElem?
    intro j
    have hall : ∀ r, r ∈ List.replicate len zv.cells.toList → r.length = sz := fun r hr => by rw [List.eq_of_mem_replicate hr]; simpa using hzs
    by_cases hj : j < len * sz
    · have hd := Nat.div_add_mod j sz
      have hmod := Nat.mod_lt j hpos
      have hdiv : j / sz < len := Nat.div_lt_of_lt_mul (by rw [Nat.mul_comm]; exact hj)
      have hg := flatten_get hall (i := j / sz) (r := zv.cells.toList) (by simp [hdiv]) (j := j % sz) hmod
      rw [Nat.mul_comm, hd] at hg
      rw [hg]
      have hm : j % sz < zv.cells.size := by omega
      simp [hj, hm]
    · rw [List.getElem?_eq_none (by simp; omega), List.getElem?_eq_none (by rw [flatten_length hall]; simpa using hj)]
  obtain ⟨vs', hv', hrep⟩ := fill_rep (E := E) (place := fun i => some (i * sz, sz)) (vs := (Array.range (len * sz)).map (zv.cells[· % zv.cells.size]!)) (parts := parts.toList.map (fun p => (p.1, evF f p.2))) (vparts := parts.toList.map (fun p => (p.1, a.eval p.2)))
    (by rw [hinit]; exact hbase len) (by simp) (fun k p q hk hk' => by
      simp only [List.getElem?_map, Option.map_eq_some_iff] at hk hk'
      obtain ⟨a1, ha1, rfl⟩ := hk
      obtain ⟨b1, hb1, rfl⟩ := hk'
      rw [ha1] at hb1
      cases hb1
      refine ⟨rfl, evF_rep hs _ (opsIn_spec hin _ ?_)⟩
      simp only [Op.operands]; simp; exact ⟨a1.1, by simpa using List.mem_of_getElem? ha1⟩) ha
  have hcl : cells.length = len * sz := by
    rw [afill_length ha, flatten_length (sz := sz) (fun r hr => by rw [List.eq_of_mem_replicate hr]; exact hzl)]; simp
  have hvs : vs'.size = len * sz := by have := hrep.1; simpa [hcl] using this
  have hcell : ∀ c, c ∈ cells → c.isCell = true := afill_cell (fun c hc => by
    obtain ⟨r, hr, hcr⟩ := List.mem_flatten.1 hc
    rw [List.eq_of_mem_replicate hr] at hcr
    exact List.all_eq_true.1 hzok c hcr) ha
  have h1 := hrep.oneCell (List.all_eq_true.2 hcell)
  have hrow := hs.1.row (old := []) (mr := m) (w := w) (by simp) rfl rfl rfl rfl e (sz := sz) (cap := len) (rows := chunk sz len cells) (vs := vs') (xs := vs'.toList) (chunk_sz sz len cells hcl) (by rw [chunk_length]; exact List.take_of_length_le (by simp [hvs])) (by rw [chunk_flatten sz len cells hcl]; exact hrep) h1
    (by rw [chunk_length]; exact Nat.le_refl _) (by unfold maxLen; have : len ≤ len * sz := Nat.le_mul_of_pos_right _ hpos; omega) hvs
  rw [chunk_length] at hrow
  refine ⟨.slice (some ⟨w.heap.size, 0, none⟩) len len, w.alloc (.cells vs' e), ?_, _, .vec E.n, _, Env.bind_le _ _, hrow, ?_, h E.n⟩
  · have hrun : (Instr.buildSlice t len (parts.map fun (i, x) => (i, a.eval x))).run P w = .ok (.slice (some ⟨w.heap.size, 0, none⟩) len len) (w.alloc (.cells vs' e)) := by
      unfold Instr.buildSlice
      simp only [Sem.run_bind, run_underlying ht.out, Result.andThen_ok, run_sizeOf]
      rw [if_neg (by omega)]
      by_cases h0 : len * sz = 0
      · have : len = 0 := by rcases Nat.mul_eq_zero.1 h0 with h | h <;> omega
        subst this
        simp only [Nat.zero_mul, if_true, pure_bind] at hv' ⊢
        have e0 : (Array.range 0).map ((#[] : Array Value)[· % (#[] : Array Value).size]!) = (Array.range 0).map (zv.cells[· % zv.cells.size]!) := by simp [Array.range]
        rw [e0, Array.toList_map]
        rw [hv']
        rfl
      · rw [if_neg h0]
        simp only [Sem.run_bind, hzr, Result.andThen_ok, Sem.run_pure, Array.toList_map]
        rw [hv']
        rfl
    simp [execOp, hrun]
  · have := Rep.vec (E := E.bind (.slice (some ⟨w.heap.size, 0, none⟩) len len)) E.n (Nat.lt_succ_self _) (by rw [Env.bind_θ]; rfl)
    rwa [Env.bind_θ] at this

/-! ## append -/
/-- What a slice (or a string) that is appended yields. -/
def ASrc (P : Program) (m : M) (tx sz : Nat) (p : AV) (rows : List (List AV)) : Prop :=
  ∀ B E w v, Sat B E m w → Rep E p v → ∃ news, Src P sz tx v rows.length news w ∧ Reps E rows.flatten news ∧ (∀ r, r ∈ rows → r.length = sz)
theorem src_nil {tx e sz : Nat} [h : SliceT P tx e] : ASrc P m tx sz .nilsl [] := fun B E w v hs hr => by
  cases hr; exact ⟨[], Src.ofNil w h.out 0, .nil E, (fun r hr => by cases hr)⟩
theorem src_sl {tx e sz c : Nat} {rows : List (List AV)} [h : SliceT P tx e] : ASrc P m tx sz (.sl c sz rows) rows := fun B E w v hs hr => by
  cases hr with
  | slnil _ _ A cap hA hm =>
    refine ⟨[], ?_, .nil E, fun r hr => by cases hr⟩
    cases A with
    | none => exact Src.ofNil w h.out cap
    | some a => exact Src.ofSlice w h.out a 0 cap [] (by simp) (fun j u h => by simp at h) (fun u h => by cases h)
  | sl _ _ _ b off cap blk T fr vs hb hc hm hsz hv h1 hr =>
    refine ⟨(List.range (rows.length * sz)).map vs, Src.ofSlice w h.out ⟨b, off, none⟩ rows.length cap _ (by simp) (fun j u hj => ?_) (fun u hu => ?_), .of_get (by simp [flatten_length hsz]) (fun j a v ha hvv => ?_), hsz⟩
    · have hj' : j < rows.length * sz := by
        obtain ⟨h, _⟩ := List.getElem?_eq_some_iff.1 hj
        simpa using h
      simp [hj'] at hj
      rw [Addr.add_lit, cell_of_blk (hs.imm c b _ hb), hv j hj', hj]
    · obtain ⟨j, hj, rfl⟩ := List.mem_map.1 hu
      exact h1 j (by simpa using hj)
    · have hj' : j < rows.length * sz := by
        obtain ⟨h, _⟩ := List.getElem?_eq_some_iff.1 ha
        rwa [flatten_length hsz] at h
      simp [hj'] at hvv
      subst hvv
      rcases Nat.eq_zero_or_pos sz with h0 | hpos
      · subst h0; simp at hj'
      have hd := Nat.div_add_mod j sz
      have hmod := Nat.mod_lt j hpos
      have hdiv : j / sz < rows.length := Nat.div_lt_of_lt_mul (by rw [Nat.mul_comm]; exact hj')
      have hg := flatten_get hsz (i := j / sz) (r := rows[j / sz]) (by simp [hdiv]) (j := j % sz) hmod
      rw [Nat.mul_comm, hd, ha] at hg
      have hlt : j % sz < rows[j / sz].length := by rw [hsz _ (List.getElem_mem hdiv)]; exact hmod
      have := hr (j / sz) hdiv (j % sz) hlt
      rw [List.getElem?_eq_getElem hlt] at hg
      cases hg
      rw [Nat.mul_comm, hd] at this
      exact this
theorem src_vec {tx e sz g T : Nat} {rows : List (List AV)} [h : SliceT P tx e] (hm : (g, AObj.vec T sz rows) ∈ m) : ASrc P m tx sz (.vec g) rows := fun B E w v hs hr => by
  cases hr with
  | vec _ hg ho =>
    obtain ⟨hsz, ⟨hθ, hnil⟩ | ⟨b, cap, cur, xs, hθ, hb, hle, hcm, hcur, htake, hrep, hone⟩⟩ := hs.obj _ hm
    · subst hnil
      have hθ : E.θ g = _ := hθ
      rw [hθ]
      exact ⟨[], Src.ofNil w h.out 0, .nil E, (fun r hr => by cases hr)⟩
    · obtain ⟨fz, hfz, hb⟩ := hb
      have hθ : E.θ g = _ := hθ
      rw [hθ]
      refine ⟨xs, Src.ofSlice w h.out ⟨b, 0, none⟩ rows.length cap xs (by rw [hrep.1, flatten_length hsz]) (fun j u hj => ?_) (fun u hu => ?_), hrep, hsz⟩
      · rw [Addr.add_lit, cell_of_blk hb]
        rw [← htake, List.getElem?_take] at hj
        split at hj
        · simpa using hj
        · cases hj
      · rw [← htake] at hu
        exact hone u (List.mem_of_mem_take hu)
def byteAV (b : UInt8) : AV := .int .u8 b.toNat
theorem flatten_single {α β : Type} (g : α → β) : ∀ l : List α, (l.map fun b => [g b]).flatten = l.map g
  | [] => rfl
  | a :: l => by rw [List.map_cons, List.flatten_cons, flatten_single g l]; rfl
theorem src_str {tx : Nat} {s : List UInt8} [h : StrT P tx] : ASrc P m tx 1 (.str s) (s.map fun b => [byteAV b]) := fun B E w v hs hr => by
  cases hr
  refine ⟨byteCells (Bs s), ?_, .of_get ?_ (fun j a v ha hv => ?_), fun r hr => ?_⟩
  · have := Src.ofString (P := P) w h.out (Bs s)
    rwa [Bs_size, ← List.length_map (f := fun b => [byteAV b])] at this
  · rw [byteCells_length, Bs_size]
    rw [flatten_single]; simp
  · rw [flatten_single] at ha
    simp only [byteCells, Bs, List.getElem?_map, Option.map_eq_some_iff] at ha hv
    obtain ⟨x, hx, rfl⟩ := ha
    obtain ⟨y, hy, rfl⟩ := hv
    rw [hx] at hy
    cases hy
    exact .int _ _
  · obtain ⟨b, _, rfl⟩ := List.mem_map.1 hr
    rfl

theorem zeroCells_one {z : AV} {zv : Value} {E : Env} (hz : Rep E z zv) (hok : okCells z = true) (k : Nat) : ∀ v, v ∈ (Builtin.zeroCells zv.cells k).toList → v.oneCell' = true := by
  intro v hv
  obtain ⟨_, h1⟩ := cells_rep hz hok
  simp [Builtin.zeroCells] at hv
  obtain ⟨i, hi, rfl⟩ := hv
  rcases Nat.eq_zero_or_pos zv.cells.size with h0 | hpos
  · rw [h0] at hi; simp at hi
  · have hm := Nat.mod_lt i hpos
    have : zv.cells[i % zv.cells.size]! = zv.cells[i % zv.cells.size] := by simp [hm]
    rw [this]
    exact h1 _ (by simp)
/-- What 'append' may grow: nothing, or an owned slice. -/
inductive ADst (m : M) (T sz : Nat) : AV → M → List (List AV) → M → Prop
  | nil : ADst m T sz .nilsl [] [] m
  | vec {g : Nat} {rows : List (List AV)} {mr : M} (h : m.Perm ((g, .vec T sz rows) :: mr)) : ADst m T sz (.vec g) [(g, .vec T sz rows)] rows mr

theorem drew_heap (w : World) : w.drew.heap = w.heap := rfl
theorem AL.append {d : Option Nat} {t tx e sz bytes : Nat} {s x : Operand} {sv xv z : AV} {rows rows2 : List (List AV)} {old mr : M} {pos : String} {after : Array Edge} [ht : SliceT P t e] [hsz : Sz P e sz bytes] [hz : ZeroT P e z]
    (hs : evF f s = sv) (hx : evF f x = xv) (hd : ADst m e sz sv old rows mr) (hsrc : ASrc P m tx sz xv rows2) (hzl : (cellsOf z).length = sz) (hzok : okCells z = true)
    (hlen : (rows.length + rows2.length) * bytes ≤ 140737488355328) (hlen2 : rows.length + rows2.length ≤ 9223372036854775807) (hin : opsIn n (.call { callee := .builtin .append, args := #[s, x], argTypes := #[t, tx] }) = true)
    (h : ∀ g, AL P n ops Q rest (updO f d (.vec g)) ((g, .vec e sz (rows ++ rows2)) :: mr)) : AL P n ops Q (⟨d, .call { callee := .builtin .append, args := #[s, x], argTypes := #[t, tx] }, ty, pos, after, none⟩ :: rest) f m := by
  refine AL.step rfl rfl fun B E w a hF => ?_
  have hrs := evF_rep hF s (opsIn_spec hin s (by simp [Op.operands, Call.operands]))
  have hrx := evF_rep hF x (opsIn_spec hin x (by simp [Op.operands, Call.operands]))
  rw [hs] at hrs
  rw [hx] at hrx
  obtain ⟨news, hnews, hrep2, hsz2⟩ := hsrc B E w _ hF.1 hrx
  obtain ⟨zv, hzv, hrz⟩ := hz.out
  obtain ⟨hcs, hz1⟩ := cells_rep (hrz E) hzok
  have hzs : zv.cells.size = sz := by have := hcs.1; simpa [hzl] using this
  have hinfo := hsz.out
  cases hq : P.info? e with
  | none => simp [hq] at hinfo
  | some i =>
  simp [hq] at hinfo hzv
  obtain ⟨hisz, hiby⟩ := hinfo
  subst hisz; subst hiby
  have hnl := hnews.newsLen
  have perm : m.Perm (old ++ mr) := by cases hd with | nil => simp | vec h => simpa using h
  have h0 : ∃ A len cap, a.eval s = .slice A len cap ∧ len = rows.length ∧ (∀ r, r ∈ rows → r.length = i.size) ∧
      ((A = none ∧ len = 0 ∧ cap = 0 ∧ rows = []) ∨ ∃ b cur xs, A = some ⟨b, 0, none⟩ ∧ Kof E old b ∧ (∃ fr : Nat × Nat, (fr = (0, 0) ∨ cap * i.size ≤ fr.1) ∧ w.heap[b]? = some (.cells cur e fr)) ∧ len ≤ cap ∧ cap ≤ maxLen ∧ cur.size = cap * i.size ∧ cur.toList.take (len * i.size) = xs ∧ Reps E rows.flatten xs ∧ ∀ v, v ∈ cur.toList → v.oneCell' = true) := by
    cases hd with
    | nil => generalize hv : a.eval s = u at hrs; cases hrs; exact ⟨none, 0, 0, rfl, rfl, (fun r hr => by cases hr), .inl ⟨rfl, rfl, rfl, rfl⟩⟩
    | @vec g _ _ h =>
      generalize hv : a.eval s = u at hrs
      cases hrs with
      | vec _ hg ho =>
        obtain ⟨hr, ⟨hθ, hnil⟩ | ⟨b, cap, cur, xs, hθ, hb, hle, hcm, hcur, htake, hrep, hone⟩⟩ := (hF.1.perm h).obj (g, .vec e i.size rows) (by simp)
        · have hθ : E.θ g = _ := hθ
          exact ⟨none, 0, 0, hθ, by rw [hnil]; rfl, hr, .inl ⟨rfl, rfl, rfl, hnil⟩⟩
        · have hθ : E.θ g = _ := hθ
          exact ⟨some ⟨b, 0, none⟩, rows.length, cap, hθ, rfl, hr, .inr ⟨b, cur, xs, rfl, ⟨_, List.mem_singleton.2 rfl, by rw [hθ]; rfl⟩, hb, hle, hcm, hcur, htake, hrep, hone⟩⟩
  obtain ⟨A, len, cap, hval, hlen', hrows, hcase⟩ := h0
  subst hlen'
  have hfl : (rows ++ rows2).flatten = rows.flatten ++ rows2.flatten := List.flatten_append
  have hall : ∀ r, r ∈ rows ++ rows2 → r.length = i.size := fun r hr => (List.mem_append.1 hr).elim (hrows r) (hsz2 r)
  have run : ∀ v w', (Builtin.append_ #[t, tx] ty #[a.eval s, a.eval x]).run P w = .ok v w' → (execOp a.eval ⟨d, .call { callee := .builtin .append, args := #[s, x], argTypes := #[t, tx] }, ty, pos, after, none⟩).run P w = .ok (.value v) w' := by
    intro v w' hr
    simp [execOp, resolve, invoke, builtin, hr]
  have fin : ∀ (olds : List Value) (nc : Nat), rows.length + rows2.length ≤ nc → nc ≤ maxLen → Reps E rows.flatten olds → (∀ v, v ∈ olds → v.oneCell' = true) →
      (Builtin.append_ #[t, tx] ty #[a.eval s, a.eval x]).run P w = .ok (.slice (some ⟨w.heap.size, 0, none⟩) (rows.length + rows2.length) nc) (w.drew.alloc (.cells ((olds ++ news).toArray ++ Builtin.zeroCells zv.cells (nc - (rows.length + rows2.length))) e)) →
      ∃ x_1 w', (execOp a.eval ⟨d, .call { callee := .builtin .append, args := #[s, x], argTypes := #[t, tx] }, ty, pos, after, none⟩).run P w = .ok (.value x_1) w' ∧ ∃ E' v m', Env.le E E' ∧ Sat B E' m' w' ∧ Rep E' v x_1 ∧ AL P n ops Q rest (updO f d v) m' := by
    intro olds nc hnc hncm hrep h1 hrun
    have ho : olds.length = rows.length * i.size := by rw [hrep.1, flatten_length hrows]
    have hrow := hF.1.row (old := old) (mr := mr) (w := w.drew) perm rfl rfl rfl rfl e (sz := i.size) (cap := nc) (rows := rows ++ rows2) (vs := (olds ++ news).toArray ++ Builtin.zeroCells zv.cells (nc - (rows.length + rows2.length))) (xs := olds ++ news) hall
      (by
        simp only [Array.toList_append, List.length_append]
        rw [List.take_append_of_le_length (by simp [ho, hnl, Nat.add_mul])]
        exact List.take_of_length_le (by simp [ho, hnl, Nat.add_mul]))
      (by rw [hfl]; exact hrep.append hrep2)
      (fun v hv => by
        simp only [Array.toList_append] at hv
        rcases List.mem_append.1 hv with hv | hv
        · rcases List.mem_append.1 hv with hv | hv
          · exact h1 v hv
          · exact hnews.one v hv
        · exact zeroCells_one (hrz E) hzok _ v hv)
      (by simpa using hnc) hncm (by
        simp only [Array.size_append, List.size_toArray, List.length_append, ho, hnl, size_zeroCells, hzs, ← Nat.add_mul]
        congr 1
        omega)
    rw [List.length_append] at hrow
    refine ⟨_, _, run _ _ hrun, _, .vec E.n, _, Env.bind_le _ _, hrow, ?_, h E.n⟩
    have := Rep.vec (E := E.bind (.slice (some ⟨w.drew.heap.size, 0, none⟩) (rows.length + rows2.length) nc)) E.n (Nat.lt_succ_self _) (by rw [Env.bind_θ]; rfl)
    rw [Env.bind_θ] at this
    exact this
  have hml : rows.length + rows2.length ≤ maxLen := by unfold maxLen; omega
  have h63 : ((rows.length + rows2.length : Nat) : Int) ≤ 9223372036854775807 := by omega
  rcases hcase with ⟨rfl, hl0, rfl, rfl⟩ | ⟨b, cur, xs, rfl, hK, hb, hle, hcm, hcur, htake, hrep, hone⟩
  · by_cases h0 : rows2.length = 0
    · -- nothing is appended to nothing
      have hr2 : rows2 = [] := List.eq_nil_of_length_eq_zero h0
      subst hr2
      have hn0 : news = [] := List.eq_nil_of_length_eq_zero (by simpa using hnl)
      subst hn0
      have hrun : (Builtin.append_ #[t, tx] ty #[a.eval s, a.eval x]).run P w = .ok (.slice none 0 0) w := by
        have hc0 : (Builtin.firstCells i.size 0 (a.eval x)).run P w = .ok #[] w := by simpa using hnews.cells
        have hl0 : ∀ w' : World, (Builtin.lenOf (a.eval x)).run P w' = .ok 0 w' := by simpa using hnews.len
        rw [hval]
        rcases hnews.kind with ⟨e', hk⟩ | hk <;> simp [Builtin.append_, run_underlying ht.out, run_underlying hk, sizeOf, typeInfo, hq, hl0, hc0]
      have hnew := hF.1.new (old := old) (mr := mr) (w' := w) perm (.slice none 0 0) (.vec e i.size []) rfl rfl rfl (Nat.le_refl _) (fun _ _ _ => rfl) (fun b hb => by cases hb) ⟨(fun r hr => by cases hr), .inl ⟨Env.bind_θ _ _, rfl⟩⟩
      refine ⟨_, _, run _ _ hrun, _, .vec E.n, _, Env.bind_le _ _, hnew, ?_, h E.n⟩
      have := Rep.vec (E := E.bind (.slice none 0 0)) E.n (Nat.lt_succ_self _) (by rw [Env.bind_θ]; rfl)
      rw [Env.bind_θ] at this
      exact this
    · have hr := run_append_grow_src (P := P) w t tx ty e i zv ht.out hq hzv none 0 0 [] (run_firstCells_none w.drew i.size 0 0 0) (a.eval x) rows2.length news hnews (by omega) (by simpa using h63) (growslice_fits (by omega) (by simpa using hlen))
      refine fin [] (grownCap w (0 + rows2.length) 0 e) (by simpa using grownCap_ge w (0 + rows2.length) 0 e) (grownCap_le_maxLen w _ 0 e (by simpa using hml)) (by simpa using Reps.nil E) (fun v hv => by cases hv) ?_
      rw [hval]
      exact hr
  · obtain ⟨fz, hfz, hb⟩ := hb
    by_cases hroom : rows.length + rows2.length ≤ cap
    · have hmulc : (rows.length + rows2.length) * i.size ≤ cap * i.size := Nat.mul_le_mul_right _ hroom
      rw [Nat.add_mul] at hmulc
      have hst := run_storeCells_atU P b (rows.length * i.size) e fz news 0 cur w hb (by rw [hcur]; exact hfz) (by simp [hnl]; omega) hnews.one
      simp only [Nat.add_zero] at hst
      have hrun : (Builtin.append_ #[t, tx] ty #[a.eval s, a.eval x]).run P w = .ok (.slice (some ⟨b, 0, none⟩) (rows.length + rows2.length) cap) (w.setRow b (splice cur.toList (rows.length * i.size) news).toArray) := by
        rw [hval]
        rcases hnews.kind with ⟨e', hk⟩ | hk <;> simp [Builtin.append_, run_underlying ht.out, run_underlying hk, sizeOf, typeInfo, hq, hnews.len, hroom, hnews.cells, Addr.add_lit, hst, splice]
      have hxl : xs.length = rows.length * i.size := by rw [hrep.1, flatten_length hrows]
      have hnew := hF.1.new (old := old) (mr := mr) (w' := w.setRow b (splice cur.toList (rows.length * i.size) news).toArray) perm (.slice (some ⟨b, 0, none⟩) (rows.length + rows2.length) cap) (.vec e i.size (rows ++ rows2)) rfl rfl rfl (by simp)
        (fun b' hb' hn => setRow_other' w b b' _ (fun e => hn (e ▸ hK))) (fun b' hb' => by cases hb'; exact ⟨.inl hK, by simpa using (Array.getElem?_eq_some_iff.1 hb).1⟩)
        ⟨hall, .inr ⟨b, cap, _, xs ++ news, by rw [Env.bind_θ, List.length_append], ⟨fz, hfz, setRow_heap w b cur _ e _ hb⟩, by simpa using hroom, hcm, by
            simp only [List.size_toArray]
            rw [splice_length _ _ _ (by simp [hnl, hcur]; omega)]
            simpa using hcur, by
            simp only [List.length_append, Nat.add_mul]
            rw [← hxl, ← hnl]
            unfold splice
            rw [hxl, htake, List.append_assoc, ← hxl]
            rw [List.take_length_add_append]
            rw [List.take_append_of_le_length (Nat.le_refl _), List.take_of_length_le (Nat.le_refl _)], by rw [hfl]; exact (hrep.append hrep2).mono (Env.bind_le _ _), by simpa using one_splice hone hnews.one _⟩⟩
      refine ⟨_, _, run _ _ hrun, _, .vec E.n, _, Env.bind_le _ _, hnew, ?_, h E.n⟩
      have := Rep.vec (E := E.bind (.slice (some ⟨b, 0, none⟩) (rows.length + rows2.length) cap)) E.n (Nat.lt_succ_self _) (by rw [Env.bind_θ]; rfl)
      rw [Env.bind_θ] at this
      exact this
    · have hxl : xs.length = rows.length * i.size := by rw [hrep.1, flatten_length hrows]
      have hold : (Builtin.firstCells i.size rows.length (.slice (some ⟨b, 0, none⟩) rows.length cap)).run P w.drew = .ok xs.toArray w.drew :=
        run_firstCells_some w.drew i.size rows.length ⟨b, 0, none⟩ rows.length cap xs hxl (fun j u hj => by
          rw [Addr.add_lit, World.cell?_drew, cell_of_blk hb]
          rw [← htake, List.getElem?_take] at hj
          split at hj
          · simpa using hj
          · cases hj)
      have hr := run_append_grow_src (P := P) w t tx ty e i zv ht.out hq hzv (some ⟨b, 0, none⟩) rows.length cap xs hold (a.eval x) rows2.length news hnews (by omega) h63 (growslice_fits (by omega) hlen)
      refine fin xs (grownCap w (rows.length + rows2.length) cap e) (grownCap_ge w _ cap e) (grownCap_le_maxLen w _ cap e hml) hrep (fun v hv => by rw [← htake] at hv; exact hone v (List.mem_of_mem_take hv)) ?_
      rw [hval]
      exact hr

end Go.V
