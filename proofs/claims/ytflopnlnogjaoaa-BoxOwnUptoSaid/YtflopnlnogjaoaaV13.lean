/- Pieces of owned slices: cutting, clearing, reading. -/
import Derived.Test.YtflopnlnogjaoaaV12
set_option linter.unusedVariables false
set_option linter.unusedSimpArgs false
namespace Go.V
open Go Go.RowKit

variable {P : Program} {n : Nat} {f : F} {m : M} {Q : AQ} {ops : Array Oper} {rest : List Oper} {ev : Operand → AV} {ty : TypeId}

theorem zeroCells_list (cs : Array Value) (n : Nat) : (Builtin.zeroCells cs n).toList = (List.replicate n cs.toList).flatten := by
  rcases Nat.eq_zero_or_pos cs.size with h0 | hpos
  · have : cs.toList = [] := List.eq_nil_of_length_eq_zero (by simpa using h0)
    rw [this]
    have : (Builtin.zeroCells cs n).size = 0 := by rw [size_zeroCells, h0, Nat.mul_zero]
    have : (Builtin.zeroCells cs n).toList = [] := List.eq_nil_of_length_eq_zero (by simpa using this)
    rw [this]; simp
  have hrows : ∀ r, r ∈ List.replicate n cs.toList → r.length = cs.size := fun r hr => by rw [List.eq_of_mem_replicate hr]; simp
  refine List.ext_getElem? fun k => ?_
  by_cases hk : k < n * cs.size
  · have hd := Nat.div_add_mod k cs.size
    have hm := Nat.mod_lt k hpos
    have hdiv : k / cs.size < n := (Nat.div_lt_iff_lt_mul hpos).2 hk
    have hg := flatten_get hrows (i := k / cs.size) (r := cs.toList) (j := k % cs.size) (by simp [hdiv]) hm
    have e : k / cs.size * cs.size + k % cs.size = k := by rw [Nat.mul_comm]; exact hd
    rw [e] at hg
    rw [hg]
    have hlt : k < (Builtin.zeroCells cs n).toList.length := by rw [Array.length_toList, size_zeroCells]; exact hk
    rw [List.getElem?_eq_getElem hlt]
    simp [Builtin.zeroCells, hm]
  · rw [List.getElem?_eq_none (by rw [Array.length_toList, size_zeroCells]; omega), List.getElem?_eq_none (by rw [flatten_length hrows]; simp; omega)]

theorem flatten_take {α : Type} {sz k : Nat} {rows : List (List α)} (hs : ∀ r, r ∈ rows → r.length = sz) (hk : k ≤ rows.length) : rows.flatten.take (k * sz) = (rows.take k).flatten := by
  have hl : (rows.take k).flatten.length = k * sz := by rw [flatten_length (sz := sz) (fun r hr => hs r (List.mem_of_mem_take hr)), List.length_take, Nat.min_eq_left hk]
  conv => lhs; rw [← List.take_append_drop k rows, List.flatten_append]
  rw [List.take_append_of_le_length (by omega), List.take_of_length_le (by omega)]
theorem flatten_drop {α : Type} {sz k : Nat} {rows : List (List α)} (hs : ∀ r, r ∈ rows → r.length = sz) (hk : k ≤ rows.length) : rows.flatten.drop (k * sz) = (rows.drop k).flatten := by
  have hl : (rows.take k).flatten.length = k * sz := by rw [flatten_length (sz := sz) (fun r hr => hs r (List.mem_of_mem_take hr)), List.length_take, Nat.min_eq_left hk]
  conv => lhs; rw [← List.take_append_drop k rows, List.flatten_append]
  rw [← hl, List.drop_left]
/-- What an owned slice is. -/
theorem vec_shape {E : Env} {w : World} {g T sz : Nat} {rows : List (List AV)} (h : ObjAt E w g (.vec T sz rows)) : ∃ A cap, E.θ g = .slice A rows.length cap ∧ rows.length ≤ cap ∧ cap ≤ maxLen ∧ (A = none → cap = 0) ∧ ∀ a, A = some a → ∃ b, a = ⟨b, 0, none⟩ := by
  obtain ⟨_, ⟨hθ, hnil⟩ | ⟨b, cap, cur, xs, hθ, hb, hle, hcm, _⟩⟩ := h
  · subst hnil; exact ⟨none, 0, hθ, Nat.le_refl _, by decide, fun _ => rfl, fun a h => by cases h⟩
  · exact ⟨_, cap, hθ, hle, hcm, (fun h => by cases h), (fun a h => ⟨b, by cases h; rfl⟩)⟩
theorem run_slice_vec {t e sz bytes : Nat} [ht : SliceT P t e] [hz : Sz P e sz bytes] {E : Env} {ρ : Operand → Value} {o : Oper} {x : Operand} {lo hi : Option Operand} {l h len cap : Nat} {A : Option Addr} (ho : o.op = .slice t x lo hi none) (hv : ρ x = .slice A len cap)
    (hr : ∀ y, y ∈ (Op.slice t x lo hi none).operands → Rep E (ev y) (ρ y)) (hl : ABound ev lo 0 l) (hh : ABound ev hi len h) (h1 : l ≤ h) (h2 : h ≤ len) (hc : len ≤ cap) :
    ∀ w, (execOp ρ o).run P w = .ok (.value (.slice (if cap = l then A else A.map (·.add (l * sz))) (h - l) (cap - l))) w := by
  have hrun : ∀ w, (Instr.sliceBounds true len cap (lo.map ρ) (hi.map ρ) none).run P w = .ok (l, h, cap) w := fun w => by
    unfold Instr.sliceBounds
    rcases bound_rep hl (fun y hy => hr y (by simp [Op.operands, hy])) with ⟨rfl, rfl⟩ | ⟨y, k, rfl, hy⟩ <;>
      rcases bound_rep hh (fun y hy => hr y (by simp [Op.operands, hy])) with ⟨rfl, rfl⟩ | ⟨z, k', rfl, hz⟩ <;>
      simp [*, run_bound, Nat.le_trans h2 hc]
  intro w
  simp [execOp, ho, hv, Instr.sliceAt, run_underlying ht.out, Instr.slice, hrun, run_sizeOf]
/-- A piece of an owned slice. -/
theorem op_slice_vec {t e g T sz bytes : Nat} {x : Operand} {lo hi : Option Operand} {rows : List (List AV)} {l h : Nat} [ht : SliceT P t e] [hz : Sz P e sz bytes] (hx : ev x = .vec g) (hm : (g, AObj.vec T sz rows) ∈ m) (hl : ABound ev lo 0 l) (hh : ABound ev hi rows.length h)
    (h1 : l ≤ h) (h2 : h ≤ rows.length) : AOp P m (.slice t x lo hi none) ty ev (.vsub g l h sz) := by
  intro B E w ρ o hs ho _ hr
  have hv := hx ▸ hr x (by simp [Op.operands])
  obtain ⟨A, cap, hθ, hc, hcm, hA, hb⟩ := vec_shape (hs.obj _ hm)
  have hθ : E.θ g = _ := hθ
  generalize hu : ρ x = u at hv
  cases hv with
  | vec _ hg _ =>
    rw [hθ] at hu
    refine ⟨_, run_slice_vec ho hu hr hl hh h1 h2 hc w, ?_⟩
    rcases Nat.eq_or_lt_of_le h1 with heq | hlt
    · subst heq
      rw [Nat.sub_self]
      refine .vsubE g l sz _ _ (fun hn => ?_) (by omega)
      split at hn
      · omega
      · cases A with
        | none => have := hA rfl; omega
        | some a => simp at hn
    · cases A with
      | none => have := hA rfl; omega
      | some a =>
        obtain ⟨b, rfl⟩ := hb a rfl
        rw [if_neg (by omega)]
        simp only [Option.map_some, Addr.add_lit, Nat.zero_add]
        exact .vsub g l h sz b rows.length cap hg hθ hlt (by omega)
theorem op_len_vsub {t e g lo hi sz : Nat} {x : Operand} [ht : SliceT P t e] (hx : ev x = .vsub g lo hi sz) (hle : lo ≤ hi) : AOp P m (.call { callee := .builtin .len, args := #[x], argTypes := #[t] }) ty ev (.int .i64 ((hi - lo : Nat) : Int)) := by
  intro B E w ρ o hs ho _ hr
  have h1 := hx ▸ hr x (by simp [Op.operands, Call.operands])
  refine ⟨.int .i64 ((hi - lo : Nat) : Int), ?_, .int _ _⟩
  generalize hv : ρ x = u at h1
  cases h1 with
  | vsub => simp [execOp, ho, resolve, invoke, builtin, hv, Builtin.len_, run_underlying ht.out, goInt]
  | vsubE => simp [execOp, ho, resolve, invoke, builtin, hv, Builtin.len_, run_underlying ht.out, goInt]
theorem op_index_vsub {t e sz bytes : Nat} {x y : Operand} {g lo hi : Nat} {k : IntKind} {i : Nat} [SliceT P t e] [Sz P e sz bytes] (hx : ev x = .vsub g lo hi sz) (hy : ev y = .int k (i : Int)) (hi' : i < hi - lo) :
    AOp P m (.indexAddr t x y) ty ev (.vptr g (lo + i) sz 0) := by
  intro B E w ρ oo hs ho _ hr
  have h1 := hx ▸ hr x (by simp [Op.operands])
  have h2 := int_inv (hy ▸ hr y (by simp [Op.operands]))
  generalize hv : ρ x = u at h1
  cases h1 with
  | vsub _ _ _ _ b len cap hg h k1 k2 =>
    refine ⟨_, ?_, .vptr g (lo + i) sz 0 b len cap hg h⟩
    have := run_indexAt (P := P) (t := t) (e := e) (sz := sz) (bytes := bytes) b (lo * sz) (hi - lo) (cap - lo) k (i : Int) (by omega) (by omega)
    simp [execOp, ho, hv, h2, this, Nat.add_mul]
  | vsubE => omega

/-- Cells that are filled in, looked at. -/
theorem op_bd {t : TypeId} {parts : Array (Nat × Operand)} {aparts : List (Nat × AV)} {z : AV} {pl : List (Nat × Nat)} {cells : List AV} [hp : PlacesT P t pl] [hz : ZeroT P t z] (hpa : parts.toList.map (fun p => (p.1, ev p.2)) = aparts)
    (hzok : okCells z = true) (ha : (afill (fun i => pl[i]?) (cellsOf z) aparts).bind forceL = some cells) : AOp P m (.build t parts) ty ev (.agg cells) := by
  cases h : afill (fun i => pl[i]?) (cellsOf z) aparts with
  | none => rw [h] at ha; cases ha
  | some cs => rw [h] at ha; exact op_build hpa hzok (by rw [h, forceL_eq ha])
/-- A whole element is stored. -/
theorem AL.stvR {d : Option Nat} {pos : String} {after : Array Edge} {t bytes g i z T' : Nat} {x y : Operand} {rows : List (List AV)} {r' : List AV} {v : AV} {G : AObj → M} [Sz P t z bytes] [h : Up m g (.vec T' z rows) G] (ha : evF f x = .vptr g i z 0) (hx : evF f y = v) (hin : opsIn n (.store t x y) = true) (hi : i < rows.length) (hsz : (cellsOf v).length = z) (hok : okCells v = true) (hc : forceL (cellsOf v) = some r')
    (k : AL P n ops Q rest (updO f d .undef) (G (.vec T' z (rows.set i r')))) : AL P n ops Q (⟨d, .store t x y, ty, pos, after, none⟩ :: rest) f m := by
  intro B E w a hs
  obtain ⟨mr, h1, h2⟩ := h.out
  have hr := ((hs.1.perm h1).obj (g, .vec T' z rows) (by simp)).1
  have hrl := hr rows[i] (List.getElem_mem hi)
  have e : splice rows[i] 0 (cellsOf v) = r' := by
    rw [forceL_eq hc] at hsz ⊢
    unfold splice
    rw [List.take_zero, List.drop_eq_nil_of_le (by omega)]
    simp
  exact AL.stv ha hx hin (List.getElem?_eq_getElem hi) hsz hok (by omega) e k B E w a hs
/-- What an owned slice's front is: it is the owned slice now, under a new name. -/
theorem AL.cutVec {d : Option Nat} {pos : String} {after : Array Edge} {t e g T sz bytes h : Nat} {x : Operand} {hi : Option Operand} {rows : List (List AV)} {mr : M} [ht : SliceT P t e] [hz : Sz P e sz bytes] (hx : evF f x = .vec g) (hm : m.Perm ((g, .vec T sz rows) :: mr)) (hin : opsIn n (.slice t x none hi none) = true) (hh : ABound (evF f) hi rows.length h) (h2 : h ≤ rows.length)
    (k : ∀ g', AL P n ops Q rest (updO f d (.vec g')) ((g', .vec T sz (rows.take h)) :: mr)) : AL P n ops Q (⟨d, .slice t x none hi none, ty, pos, after, none⟩ :: rest) f m := by
  refine AL.step rfl rfl fun B E w a hs => ?_
  have hr := evF_rep hs x (opsIn_spec hin x (by simp [Op.operands]))
  rw [hx] at hr
  have hob := (hs.1.perm hm).obj (g, .vec T sz rows) (by simp)
  obtain ⟨A, cap, hθ, hc, hcm, hA, hb⟩ := vec_shape hob
  have hθ : E.θ g = _ := hθ
  have hu : a.eval x = .slice A rows.length cap := by
    generalize a.eval x = u at hr
    cases hr; exact hθ
  have hrun := run_slice_vec (P := P) (ev := evF f) (ρ := a.eval) (o := ⟨d, .slice t x none hi none, ty, pos, after, none⟩) (l := 0) (h := h) rfl hu (fun y hy => evF_rep hs y (opsIn_spec hin y hy)) rfl hh (Nat.zero_le _) h2 hc w
  have hval : (if cap = 0 then A else A.map (·.add (0 * sz))) = A := by
    split
    · rfl
    · cases A with
      | none => rfl
      | some a => obtain ⟨b, rfl⟩ := hb a rfl; simp [Addr.add_lit]
  rw [hval, Nat.sub_zero, Nat.sub_zero] at hrun
  have hnew : Sat B (E.bind (.slice A h cap)) ((E.n, .vec T sz (rows.take h)) :: mr) w := by
    refine hs.1.new (old := [(g, .vec T sz rows)]) hm (.slice A h cap) _ rfl rfl rfl (Nat.le_refl _) (fun _ _ _ => rfl) (fun b hbb => ?_) ?_
    · have hown := (hs.1.perm hm).own (g, .vec T sz rows) (by simp) b (by rw [show E.θ (g, AObj.vec T sz rows).1 = E.θ g from rfl, hθ]; cases A <;> exact hbb)
      exact ⟨.inl ⟨_, List.mem_singleton.2 rfl, by rw [show E.θ (g, AObj.vec T sz rows).1 = E.θ g from rfl, hθ]; cases A <;> exact hbb⟩, hown.2.2⟩
    · obtain ⟨hsz, ⟨hθ', hnil⟩ | ⟨b, cap', cur, xs, hθ', hbk, hle, hcm', hcur, htake, hrep, hone⟩⟩ := hob
      · have hθ' : E.θ g = _ := hθ'
        rw [hθ'] at hθ
        simp at hθ
        obtain ⟨rfl, _, rfl⟩ := hθ
        subst hnil
        have : h = 0 := by simpa using h2
        subst this
        exact ⟨(fun r hr => by simp at hr), .inl ⟨Env.bind_θ _ _, by simp⟩⟩
      · have hθ' : E.θ g = _ := hθ'
        rw [hθ'] at hθ
        simp at hθ
        obtain ⟨rfl, rfl⟩ := hθ
        have hl : (rows.take h).length = h := by simp; omega
        refine ⟨fun r hr => hsz r (List.mem_of_mem_take hr), .inr ⟨b, cap', cur, cur.toList.take (h * sz), ?_, hbk, by omega, hcm', hcur, by rw [hl], ?_, hone⟩⟩
        · rw [Env.bind_θ, hl]
        · have e : (rows.take h).flatten = rows.flatten.take (h * sz) := (flatten_take hsz h2).symm
          have e2 : cur.toList.take (h * sz) = xs.take (h * sz) := by
            rw [← htake, List.take_take, Nat.min_eq_left (Nat.mul_le_mul_right _ h2)]
          rw [e, e2]
          exact (hrep.take _).mono (Env.bind_le _ _)
  refine ⟨_, w, hrun, _, .vec E.n, _, Env.bind_le _ _, hnew, ?_, k E.n⟩
  have := Rep.vec (E := E.bind (.slice A h cap)) E.n (Nat.lt_succ_self _) (by rw [Env.bind_θ]; rfl)
  rwa [Env.bind_θ] at this

theorem flatten_replace {α : Type} {sz : Nat} {rows : List (List α)} {lo hi : Nat} {z : List α} (hs : ∀ r, r ∈ rows → r.length = sz) (hz : z.length = sz) (h1 : lo ≤ hi) (h2 : hi ≤ rows.length) :
    (rows.take lo ++ List.replicate (hi - lo) z ++ rows.drop hi).flatten = splice rows.flatten (lo * sz) (List.replicate (hi - lo) z).flatten := by
  have hrep : ((List.replicate (hi - lo) z).flatten).length = (hi - lo) * sz := by rw [flatten_length (sz := sz) (fun r hr => by rw [List.eq_of_mem_replicate hr, hz])]; simp
  have t1 := flatten_take hs (show lo ≤ rows.length by omega)
  have t2 := flatten_drop hs h2
  unfold splice
  rw [t1, hrep, ← Nat.add_mul, show lo + (hi - lo) = hi by omega, t2]
  simp
/-- A piece is cleared. -/
theorem AL.clearSub {d : Option Nat} {pos : String} {after : Array Edge} {t e g lo hi T sz bytes : Nat} {x : Operand} {rows : List (List AV)} {z : AV} {mr : M} [ht : SliceT P t e] [hsz : Sz P e sz bytes] [hz : ZeroT P e z] (hx : evF f x = .vsub g lo hi sz) (hm : m.Perm ((g, .vec T sz rows) :: mr)) (hin : oIn n x = true)
    (hzl : (cellsOf z).length = sz) (hzok : okCells z = true) (h1 : lo ≤ hi) (h2 : hi ≤ rows.length)
    (k : AL P n ops Q rest (updO f d (.tuple [])) ((g, .vec T sz (rows.take lo ++ List.replicate (hi - lo) (cellsOf z) ++ rows.drop hi)) :: mr)) : AL P n ops Q (⟨d, .call { callee := .builtin .clear, args := #[x], argTypes := #[t] }, ty, pos, after, none⟩ :: rest) f m := by
  refine AL.step rfl rfl fun B E w a hs => ?_
  have hr := evF_rep hs x (oIn_spec hin)
  rw [hx] at hr
  obtain ⟨zv, hzv, hrz⟩ := hz.out
  obtain ⟨hcs, hz1⟩ := cells_rep (hrz E) hzok
  have hzs : zv.cells.toList.length = sz := by rw [hcs.1, hzl]
  have hzs' : zv.cells.size = sz := by simpa using hzs
  have hob := (hs.1.perm hm).obj (g, .vec T sz rows) (by simp)
  have hzr : ∀ w, (zeroValue e).run P w = .ok zv w := fun w => by
    cases hq : P.info? e with
    | none => simp [hq] at hzv
    | some i => simp [hq] at hzv; simp [zeroValue, typeInfo, hq, hzv]
  rcases Nat.eq_or_lt_of_le h1 with heq | hlt
  · subst heq
    have hu : ∃ A c, a.eval x = .slice A 0 c := by
      generalize a.eval x = u at hr
      cases hr with
      | vsub _ _ _ _ b len cap hg h k1 k2 => omega
      | vsubE _ _ _ A c => exact ⟨A, c, rfl⟩
    obtain ⟨A, c, hu⟩ := hu
    refine ⟨.tuple #[], w, ?_, E, .tuple [], _, Env.le.refl E, hs.1.perm hm, .tuple [] #[] rfl (fun i h => by cases h), by simpa using k⟩
    cases A <;> simp [execOp, resolve, invoke, builtin, hu, Builtin.clear_, run_underlying ht.out]
  · generalize hu : a.eval x = u at hr
    cases hr with
    | vsubE => omega
    | vsub _ _ _ _ b len cap hg h k1 k2 =>
      obtain ⟨hrows, ⟨hθ', hnil⟩ | ⟨b', cap', cur, xs, hθ', hbk, hle, hcm', hcur, htake, hrep, hone⟩⟩ := hob
      · subst hnil; simp at h2; omega
      · have hθ' : E.θ g = _ := hθ'
        obtain ⟨fz, hfz, hbk⟩ := hbk
        rw [hθ'] at h
        simp at h
        obtain ⟨rfl, rfl, rfl⟩ := h
        have hmulh : hi * sz ≤ rows.length * sz := Nat.mul_le_mul_right _ h2
        have hmulc : rows.length * sz ≤ cap' * sz := Nat.mul_le_mul_right _ hle
        have hzl2 : ((Builtin.zeroCells zv.cells (hi - lo)).toList).length = (hi - lo) * sz := by rw [Array.length_toList, size_zeroCells, hzs']
        have hfit : lo * sz + (hi - lo) * sz = hi * sz := by rw [← Nat.add_mul]; congr 1; omega
        have hst := run_storeCells_atU P b' (lo * sz) T fz (Builtin.zeroCells zv.cells (hi - lo)).toList 0 cur w hbk (by rw [hcur]; exact hfz) (by rw [hzl2]; omega) (fun v hv => by
          rw [zeroCells_list] at hv
          obtain ⟨l, hl1, hl2⟩ := List.mem_flatten.1 hv
          rw [List.eq_of_mem_replicate hl1] at hl2
          exact hz1 v hl2)
        simp only [Nat.add_zero] at hst
        have hlenr : (rows.take lo ++ List.replicate (hi - lo) (cellsOf z) ++ rows.drop hi).length = rows.length := by simp; omega
        have hone2 : ∀ v, v ∈ (Builtin.zeroCells zv.cells (hi - lo)).toList → v.oneCell' = true := fun v hv => by
          rw [zeroCells_list] at hv
          obtain ⟨l, hl1, hl2⟩ := List.mem_flatten.1 hv
          rw [List.eq_of_mem_replicate hl1] at hl2
          exact hz1 v hl2
        have hrepz : ∀ k, Reps E (List.replicate k (cellsOf z)).flatten (List.replicate k zv.cells.toList).flatten := fun k => by
          induction k with
          | zero => exact .nil E
          | succ k ih => rw [List.replicate_succ, List.flatten_cons, List.replicate_succ, List.flatten_cons]; exact hcs.append ih
        refine ⟨.tuple #[], w.setRow b' (splice cur.toList (lo * sz) (Builtin.zeroCells zv.cells (hi - lo)).toList).toArray, ?_, E, .tuple [], _, Env.le.refl E,
          hs.1.put (o' := .vec T sz (rows.take lo ++ List.replicate (hi - lo) (cellsOf z) ++ rows.drop hi)) hm rfl rfl rfl (by simp) (fun b'' hb' hne => setRow_other' w b' b'' _ (fun e => hne (by rw [hθ', e]; rfl)))
            ⟨?_, .inr ⟨b', cap', _, _, by rw [hlenr]; exact hθ', ⟨fz, hfz, setRow_heap w b' cur _ T _ hbk⟩, by rw [hlenr]; exact hle, hcm', ?_, rfl, ?_, by simpa using one_splice hone hone2 _⟩⟩, .tuple [] #[] rfl (fun i h => by cases h), k⟩
        · obtain ⟨q, hq⟩ : ∃ q, hi - lo = q + 1 := ⟨hi - lo - 1, by omega⟩
          rw [hq] at hst ⊢
          simp [execOp, resolve, invoke, builtin, hu, hq, Builtin.clear_, run_underlying ht.out, hzr, hst, splice]
        · intro r hr
          rcases List.mem_append.1 hr with hr | hr
          · rcases List.mem_append.1 hr with hr | hr
            · exact hrows r (List.mem_of_mem_take hr)
            · rw [List.eq_of_mem_replicate hr, hzl]
          · exact hrows r (List.mem_of_mem_drop hr)
        · simp only [List.size_toArray]
          rw [splice_length _ _ _ (by rw [hzl2]; simp; omega)]
          simpa using hcur
        · rw [hlenr]
          simp only []
          rw [splice_take _ _ _ _ (by rw [hzl2]; omega) (by simp; omega), htake, flatten_replace hrows hzl h1 h2, zeroCells_list]
          exact hrep.splice (hrepz _) _

/-! ## Bytes and strings -/
theorem bytes_fold : ∀ (l : List UInt8) (s : ByteArray), ((l.map fun b => (b.toNat : Int)).foldl (fun r n => r.push (UInt8.ofNat n.toNat)) s) = s ++ Bs l
  | [], s => by apply ByteArray.ext; simp [Bs]
  | b :: l, s => by
    rw [List.map_cons, List.foldl_cons, bytes_fold l]
    apply ByteArray.ext
    simp [Bs]
theorem reps_bytes {E : Env} : ∀ {l : List UInt8} {vs : List Value}, Reps E (l.map byteAV) vs → vs = l.map fun b => Value.int .u8 b.toNat
  | [], vs, h => h.nil_inv
  | b :: l, vs, h => by
    obtain ⟨v, r, rfl, hv, hr⟩ := h.cons_inv
    rw [reps_bytes hr, int_inv hv]; rfl
/-- A slice's elements, one cell each, are read. -/
theorem sl_cells {B : Base} {E : Env} {w : World} {c : Nat} {l : List UInt8} {v : Value} (hs : Sat B E m w) (h : Rep E (.sl c 1 (l.map fun b => [byteAV b])) v) : ∃ A cap, v = .slice A l.length cap ∧ (A = none → l = []) ∧ ∀ a, A = some a → (loadCells a l.length).run P w = .ok ((l.map fun b => Value.int .u8 b.toNat)).toArray w := by
  generalize hrows : (l.map fun b => [byteAV b]) = rows at h
  cases h with
  | slnil _ _ A cap hA hm =>
    have : l = [] := by simpa using hrows
    subst this
    exact ⟨A, cap, rfl, fun _ => rfl, fun a _ => by simp [loadCells, loadCellsFrom]⟩
  | sl _ _ _ b off cap blk T fr vs hb hc hm hsz hv h1 hr =>
    subst hrows
    simp only [List.length_map] at *
    refine ⟨_, cap, rfl, (fun h => by cases h), fun a ha => ?_⟩
    cases ha
    have hw := hs.imm c b _ hb
    have := run_loadCells_list (P := P) w ⟨b, off, none⟩ (l.map fun b => Value.int .u8 b.toNat) (fun j v hj => ?_)
    · simpa using this
    · rw [Addr.add_lit, cell_of_blk hw]
      obtain ⟨hjl, rfl⟩ := List.getElem?_eq_some_iff.1 hj
      simp only [List.length_map] at hjl
      have h2 := hv j (by simpa using hjl)
      have h3 := hr j (by simpa using hjl) 0 (by simp)
      simp only [List.getElem_map, List.getElem_cons_zero, Nat.mul_one, Nat.add_zero] at h3
      rw [h2, int_inv h3]
      simp
class ByteT (P : Program) (t : TypeId) (e : outParam TypeId) : Prop where
  out : P.underlying t = some (.slice e) ∧ P.underlying e = some (.int .u8)
instance {P : Program} {t e : TypeId} [h1 : SliceT P t e] [h2 : IntT P e .u8] : ByteT P t e := ⟨h1.out, h2.out⟩
theorem op_b2s {x : Operand} {src dst e c : Nat} {l : List UInt8} [hb : ByteT P src e] [hd : StrT P dst] (hx : ev x = .sl c 1 (l.map fun b => [byteAV b])) : AOp P m (.convert src dst x) ty ev (.str l) := by
  intro B E w ρ o hs ho _ hr
  obtain ⟨A, cap, hv, hA, hl⟩ := sl_cells (P := P) hs (hx ▸ hr x (by simp [Op.operands]))
  refine ⟨.string (Bs l), ?_, .str _⟩
  have hrun : (convert src dst (.slice A l.length cap)).run P w = .ok (.string (Bs l)) w := by
    have h1 : (convert src dst (.slice A l.length cap)).run P w = (Conv.bytesToString (.slice A l.length cap)).run P w := by simp [convert, run_underlying hb.out.1, run_underlying hd.out, run_underlying hb.out.2]
    rw [h1]
    cases A with
    | none => rw [hA rfl]; simp [Conv.bytesToString, Bs]; rfl
    | some a =>
      have := run_bytesToString (P := P) w a l.length cap (l.map fun b => (b.toNat : Int)) (by rw [hl a rfl]; simp)
      rw [this, bytes_fold]
      congr 2
  simp [execOp, ho, hv, hrun]

theorem AL.lenv' {d : Option Nat} {pos : String} {after : Array Edge} {t e g T sz : Nat} {x : Operand} {rows : List (List AV)} [SliceT P t e] [h : Has m g (.vec T sz rows)] (hx : evF f x = .vec g) (hin : oIn n x = true) (k : rows.length ≤ 9223372036854775807 → AL P n ops Q rest (updO f d (.int .i64 (rows.length : Int))) m) :
    AL P n ops Q (⟨d, .call { callee := .builtin .len, args := #[x], argTypes := #[t] }, ty, pos, after, none⟩ :: rest) f m := by
  intro B E w a hs
  obtain ⟨A, cap, _, h1, h2, _⟩ := vec_shape (hs.1.obj _ h.out)
  exact AL.lenv hx hin (k (by unfold maxLen at h2; omega)) B E w a hs
theorem AW.ghm {c : Code} {m' : M} (h : Gh n f m f m') (k : AW P n c Q f m') : AW P n c Q f m := AW.gh h k
/-! ## In a chain -/
theorem Chain.same {S : M} {r : List (Nat × Nat)} {k : Nat} {v : AV} (h : f k = v) (hk : Chain P n ops Q S r (upd f k v) m) : Chain P n ops Q S r f m := by rwa [upd_self h] at hk
section
variable {d : Option Nat} {pos : String} {after : Array Edge} {S : M} {i : Nat} {r : List (Nat × Nat)}
theorem Chain.append {t tx e sz bytes : Nat} {s x : Operand} {sv xv z : AV} {rows rows2 : List (List AV)} {old mr : M} [ht : SliceT P t e] [hsz : Sz P e sz bytes] [hz : ZeroT P e z]
    (ho : ops[i]? = some ⟨d, .call { callee := .builtin .append, args := #[s, x], argTypes := #[t, tx] }, ty, pos, after, none⟩) (hs : evF f s = sv) (hx : evF f x = xv) (hd : ADst m e sz sv old rows mr) (hsrc : ASrc P m tx sz xv rows2) (hzl : (cellsOf z).length = sz) (hzok : okCells z = true)
    (hlen : (rows.length + rows2.length) * bytes ≤ 140737488355328) (hlen2 : rows.length + rows2.length ≤ 9223372036854775807) (hin : opsIn n (.call { callee := .builtin .append, args := #[s, x], argTypes := #[t, tx] }) = true)
    (hdst : dstIn n ⟨d, .call { callee := .builtin .append, args := #[s, x], argTypes := #[t, tx] }, ty, pos, after, none⟩ = true)
    (k : ∀ g, ∃ S', Kp ((g, .vec e sz (rows ++ rows2)) :: mr) S' ∧ Chain P n ops Q S' r (updO f d (.vec g)) ((g, .vec e sz (rows ++ rows2)) :: mr)) : Chain P n ops Q S ((i, 2) :: r) f m :=
  Chain.barAl (o := ⟨d, .call { callee := .builtin .append, args := #[s, x], argTypes := #[t, tx] }, ty, pos, after, none⟩) (K := fun v m' => ∃ g, v = .vec g ∧ m' = (g, .vec e sz (rows ++ rows2)) :: mr) ho rfl hdst
    (fun f0 h0 => AL.append ((h0 s (by simp [Op.operands, Call.operands])).trans hs) ((h0 x (by simp [Op.operands, Call.operands])).trans hx) hd hsrc hzl hzok hlen hlen2 hin (fun g => AL.nil ⟨rfl, _, rfl, g, rfl, rfl⟩))
    (fun v m' ⟨g, h1, h2⟩ => by subst h1; subst h2; exact k g)
theorem Chain.buildSlice {t e sz bytes len : Nat} {parts : Array (Nat × Operand)} {aparts : List (Nat × AV)} {z : AV} {cells : List AV} {rows : List (List AV)} [ht : SliceT P t e] [hsz : Sz P e sz bytes] [hz : ZeroT P e z] (hS : Kp m S) (ho : ops[i]? = some ⟨d, .buildSlice t len parts, ty, pos, after, none⟩)
    (hpa : parts.toList.map (fun p => (p.1, evF f p.2)) = aparts) (hzl : (cellsOf z).length = sz) (hzok : okCells z = true) (hpos : 0 < sz) (hlen : len * sz ≤ 16777216)
    (ha : afill (fun i => some (i * sz, sz)) ((List.replicate len (cellsOf z)).flatten) aparts = some cells) (hrows : chunk sz len cells = rows) (hin : opsIn n (.buildSlice t len parts) = true) (hdst : dstIn n ⟨d, .buildSlice t len parts, ty, pos, after, none⟩ = true)
    (h : ∀ g, Chain P n ops Q S r (updO f d (.vec g)) ((g, .vec e sz rows) :: m)) : Chain P n ops Q S ((i, 1) :: r) f m :=
  Chain.al (o := ⟨d, .buildSlice t len parts, ty, pos, after, none⟩) (K := fun v m' => ∃ g, v = .vec g ∧ m' = (g, .vec e sz rows) :: m) ho rfl hdst
    (fun f0 h0 => AL.buildSlice (by
      rw [← hpa]
      exact List.map_congr_left (fun p hp => by rw [h0 p.2 (by simp only [Op.operands]; simp; exact ⟨p.1, by simpa using hp⟩)])) hzl hzok hpos hlen ha hrows hin (fun g => AL.nil ⟨rfl, _, rfl, ⟨g, rfl, rfl⟩, Lets.skip hS⟩))
    (fun v m' ⟨g, h1, h2⟩ => by subst h1; subst h2; exact h g)
end
end Go.V
