/- Lengths, cuts, conversions; ghost steps: what may be frozen, and forgotten. -/
import Derived.Test.YtflopnlnogjaoaaV6
set_option linter.unusedVariables false
set_option linter.unusedSimpArgs false
namespace Go.V
open Go Go.RowKit

variable {P : Program} {n : Nat} {f : F} {m : M} {Q : AQ} {ops : Array Oper} {rest : List Oper} {ev : Operand → AV} {ty : TypeId}

/-! ## Lengths -/
theorem op_len_sl {t e c sz : Nat} {x : Operand} {rows : List (List AV)} [ht : SliceT P t e] (hx : ev x = .sl c sz rows) : AOp P m (.call { callee := .builtin .len, args := #[x], argTypes := #[t] }) ty ev (.int .i64 (rows.length : Int)) :=
  .of fun E ρ o ho _ hr => by
    have h1 := hx ▸ hr x (by simp [Op.operands, Call.operands])
    refine ⟨.int .i64 rows.length, .int _ _, fun w => ?_⟩
    generalize hv : ρ x = u at h1
    cases h1 <;> simp [execOp, ho, resolve, invoke, builtin, hv, Builtin.len_, run_underlying ht.out, goInt]
theorem op_len_nil {t e : Nat} {x : Operand} [ht : SliceT P t e] (hx : ev x = .nilsl) : AOp P m (.call { callee := .builtin .len, args := #[x], argTypes := #[t] }) ty ev (.int .i64 0) :=
  .of fun E ρ o ho _ hr => by
    have h1 := hx ▸ hr x (by simp [Op.operands, Call.operands])
    refine ⟨.int .i64 0, .int _ _, fun w => ?_⟩
    generalize hv : ρ x = u at h1
    cases h1
    simp [execOp, ho, resolve, invoke, builtin, hv, Builtin.len_, run_underlying ht.out, goInt]
theorem op_len_str {t : Nat} {x : Operand} {s : List UInt8} [ht : StrT P t] (hx : ev x = .str s) : AOp P m (.call { callee := .builtin .len, args := #[x], argTypes := #[t] }) ty ev (.int .i64 (s.length : Int)) :=
  .of fun E ρ o ho _ hr => by
    have h1 := str_inv (hx ▸ hr x (by simp [Op.operands, Call.operands]))
    exact ⟨.int .i64 s.length, .int _ _, fun w => by simp [execOp, ho, resolve, invoke, builtin, h1, Builtin.len_, run_underlying ht.out, goInt, Bs_size]⟩
theorem op_len_vec {t e g T sz : Nat} {x : Operand} {rows : List (List AV)} [ht : SliceT P t e] (hx : ev x = .vec g) (hm : (g, AObj.vec T sz rows) ∈ m) : AOp P m (.call { callee := .builtin .len, args := #[x], argTypes := #[t] }) ty ev (.int .i64 (rows.length : Int)) := by
  intro B E w ρ o hs ho _ hr
  have h1 := hx ▸ hr x (by simp [Op.operands, Call.operands])
  refine ⟨.int .i64 rows.length, ?_, .int _ _⟩
  generalize hv : ρ x = u at h1
  cases h1 with
  | vec _ hg ho' =>
    obtain ⟨_, ⟨hθ, hnil⟩ | ⟨b, cap, cur, xs, hθ, _⟩⟩ := hs.obj _ hm
    · have hθ : E.θ g = _ := hθ
      subst hnil
      simp [execOp, ho, resolve, invoke, builtin, hv, hθ, Builtin.len_, run_underlying ht.out, goInt]
    · have hθ : E.θ g = _ := hθ
      simp [execOp, ho, resolve, invoke, builtin, hv, hθ, Builtin.len_, run_underlying ht.out, goInt]
/-- A slice in a slot has not more elements than an int counts. -/
theorem AL.lenBound {t c sz : Nat} {rows : List (List AV)} (hf : f t = .sl c sz rows) (ht : t < n) (h : rows.length ≤ 9223372036854775807 → AL P n ops Q rest f m) : AL P n ops Q rest f m := by
  intro B E w a hs
  refine h ?_ B E w a hs
  have hr := hs.2.2.2 t ht
  rw [hf] at hr
  generalize a.tmps.getD t undef = u at hr
  cases hr with
  | slnil => simp
  | sl _ _ _ b off cap blk T fr vs hb hc hm => unfold maxLen at hm; omega
theorem AW.lenBound {c' : Code} {t c sz : Nat} {rows : List (List AV)} (hf : f t = .sl c sz rows) (ht : t < n) (h : rows.length ≤ 9223372036854775807 → AW P n c' Q f m) : AW P n c' Q f m := by
  intro B E w a hs
  refine h ?_ B E w a hs
  have hr := hs.2.2.2 t ht
  rw [hf] at hr
  generalize a.tmps.getD t undef = u at hr
  cases hr with
  | slnil => simp
  | sl _ _ _ b off cap blk T fr vs hb hc hm => unfold maxLen at hm; omega

/-! ## Cuts -/
def ABound (ev : Operand → AV) (lo : Option Operand) (dflt l : Nat) : Prop :=
  match lo with
  | none => l = dflt
  | some x => ∃ k i, ev x = .int k i ∧ 0 ≤ i ∧ l = i.toNat
theorem bound_rep {E : Env} {ρ : Operand → Value} {lo : Option Operand} {dflt l : Nat} (h : ABound ev lo dflt l) (hr : ∀ x, lo = some x → Rep E (ev x) (ρ x)) :
    (lo = none ∧ l = dflt) ∨ ∃ x k, lo = some x ∧ ρ x = .int k (l : Int) := by
  cases lo with
  | none => exact .inl ⟨rfl, h⟩
  | some x =>
    obtain ⟨k, i, hx, h0, rfl⟩ := h
    have := int_inv (hx ▸ hr x rfl)
    exact .inr ⟨x, k, rfl, by rw [this, Int.toNat_of_nonneg h0]⟩
theorem Bs_extract (s : List UInt8) (l h : Nat) : (Bs s).extract l h = Bs ((s.take h).drop l) := by
  apply ByteArray.ext
  simp [Bs, List.drop_take]
theorem run_bound {k : IntKind} {l y : Nat} (h : l ≤ y) (code : BoundsCode) (w : World) : (Instr.sliceBound (.int k (l : Int)) y code).run P w = .ok l w := by
  simp [Instr.sliceBound, asIntOf]; omega
theorem op_slice_str {t : Nat} {x : Operand} {lo hi : Option Operand} {s r : List UInt8} {l h : Nat} [ht : StrT P t] (hx : ev x = .str s) (hl : ABound ev lo 0 l) (hh : ABound ev hi s.length h) (h1 : l ≤ h) (h2 : h ≤ s.length) (hc : (s.take h).drop l = r) :
    AOp P m (.slice t x lo hi none) ty ev (.str r) :=
  .of fun E ρ o ho _ hr => by
    subst hc
    have hs := str_inv (hx ▸ hr x (by simp [Op.operands]))
    refine ⟨.string (Bs ((s.take h).drop l)), .str _, fun w => ?_⟩
    have hrun : (Instr.sliceBounds false (Bs s).size (Bs s).size (lo.map ρ) (hi.map ρ) none).run P w = .ok (l, h, (Bs s).size) w := by
      rw [Bs_size]
      unfold Instr.sliceBounds
      rcases bound_rep hl (fun y hy => hr y (by simp [Op.operands, hy])) with ⟨rfl, rfl⟩ | ⟨y, k, rfl, hy⟩ <;>
        rcases bound_rep hh (fun y hy => hr y (by simp [Op.operands, hy])) with ⟨rfl, rfl⟩ | ⟨z, k', rfl, hz⟩ <;>
        simp [*, run_bound]
    simp [execOp, ho, hs, Instr.sliceAt, run_underlying ht.out, Instr.slice, hrun, Bs_extract]
theorem op_slice_sl {t e c sz bytes : Nat} {x : Operand} {lo hi mx : Option Operand} {rows r : List (List AV)} {l h : Nat} [ht : SliceT P t e] [hz : Sz P e sz bytes] (hx : ev x = .sl c sz rows) (hl : ABound ev lo 0 l) (hh : ABound ev hi rows.length h)
    (hm : mx = none ∨ ∃ y k i, mx = some y ∧ hi.isSome = true ∧ ev y = .int k i ∧ (h : Int) ≤ i ∧ i ≤ rows.length) (h1 : l ≤ h) (h2 : h ≤ rows.length) (hc : (rows.take h).drop l = r) :
    AOp P m (.slice t x lo hi mx) ty ev (.sl c sz r) :=
  .of fun E ρ o ho _ hr => by
    subst hc
    have hv := hx ▸ hr x (by simp [Op.operands])
    generalize hu : ρ x = u at hv
    -- the value's shape
    have hshape : ∃ A cap, u = .slice A rows.length cap ∧ rows.length ≤ cap ∧ cap ≤ maxLen ∧ (A = none → cap = 0) := by
      cases hv with
      | slnil _ _ A cap hA hm' => exact ⟨A, cap, rfl, Nat.zero_le _, hm', hA⟩
      | sl _ _ _ b off cap blk T fr vs hb hc hm' => exact ⟨_, cap, rfl, hc, hm', fun h => by cases h⟩
    obtain ⟨A, cap, rfl, hcap, hcm, hA⟩ := hshape
    have hb : ∃ mm, h ≤ mm ∧ mm ≤ cap ∧ ∀ w, (Instr.sliceBounds true rows.length cap (lo.map ρ) (hi.map ρ) (mx.map ρ)).run P w = .ok (l, h, mm) w := by
      rcases hm with rfl | ⟨y, k, i, rfl, his, hy, hi1, hi2⟩
      · refine ⟨cap, by omega, Nat.le_refl _, fun w => ?_⟩
        unfold Instr.sliceBounds
        rcases bound_rep hl (fun y hy => hr y (by simp [Op.operands, hy])) with ⟨rfl, rfl⟩ | ⟨y, k, rfl, hy⟩ <;>
          rcases bound_rep hh (fun y hy => hr y (by simp [Op.operands, hy])) with ⟨rfl, rfl⟩ | ⟨z, k', rfl, hz⟩ <;>
          simp [*, run_bound, Nat.le_trans h2 hcap]
      · have hyv := int_inv (hy ▸ hr y (by simp [Op.operands]))
        obtain ⟨mm, rfl⟩ : ∃ mm : Nat, i = (mm : Int) := ⟨i.toNat, by omega⟩
        refine ⟨mm, by omega, by omega, fun w => ?_⟩
        unfold Instr.sliceBounds
        rcases bound_rep hl (fun y hy => hr y (by simp [Op.operands, hy])) with ⟨rfl, rfl⟩ | ⟨y', k2, rfl, hy'⟩ <;>
          rcases bound_rep hh (fun y hy => hr y (by simp [Op.operands, hy])) with ⟨rfl, rfl⟩ | ⟨z, k', rfl, hz⟩ <;>
          first
            | (simp at his; done)
            | simp [*, run_bound, show mm ≤ cap by omega, show h ≤ mm by omega]
    obtain ⟨mm, hmm, hmc, hrun⟩ := hb
    have hrun2 : ∀ w, (execOp ρ o).run P w = .ok (.value (.slice (if mm = l then A else A.map (·.add (l * sz))) (h - l) (mm - l))) w := fun w => by
      simp [execOp, ho, hu, Instr.sliceAt, run_underlying ht.out, Instr.slice, hrun, run_sizeOf]
    refine ⟨_, ?_, hrun2⟩
    have hlen : ((rows.take h).drop l).length = h - l := by simp; omega
    rcases Nat.eq_or_lt_of_le h1 with heq | hlt
    · have : (rows.take h).drop l = [] := List.eq_nil_of_length_eq_zero (by omega)
      rw [this, show h - l = 0 by omega]
      refine .slnil _ _ _ _ (fun hn => ?_) (by omega)
      split at hn
      · have := hA hn; omega
      · cases A with
        | none => have := hA rfl; omega
        | some a => simp at hn
    · have hne : mm ≠ l := by omega
      rw [if_neg hne]
      cases hv with
      | slnil => simp at h2; omega
      | sl _ _ _ b off _ blk T fr vs hb hc hm hsz hvv hone hr' =>
        simp only [Option.map_some, Addr.add_lit]
        rw [← hlen]
        have hlen2 : ((rows.take h).drop l).length * sz + l * sz ≤ rows.length * sz := by
          rw [hlen, ← Nat.add_mul]; exact Nat.mul_le_mul_right _ (by omega)
        refine .sl c sz _ b (off + l * sz) (mm - l) blk T fr (fun j => vs (l * sz + j)) hb (by rw [hlen]; omega) (by omega) (fun r hr => hsz r (List.mem_of_mem_take (List.mem_of_mem_drop hr))) (fun j hj => ?_) (fun j hj => hone _ (by omega)) (fun i hi j hj => ?_)
        · have := hvv (l * sz + j) (by omega)
          rwa [← Nat.add_assoc] at this
        · have hi' : l + i < rows.length := by rw [hlen] at hi; omega
          have e : ((rows.take h).drop l)[i] = rows[l + i] := by simp
          simp only [e] at hj ⊢
          have := hr' (l + i) hi' j hj
          rwa [Nat.add_mul, Nat.add_assoc] at this

/-! ## Ghost steps -/
/-- Memory is as it is; what is known of it is told anew. -/
def Gh (n : Nat) (f : F) (m : M) (f' : F) (m' : M) : Prop := ∀ B E w a, SatF B E n f m a w → ∃ E', SatF B E' n f' m' a w
theorem AL.gh {f' : F} {m' : M} (hg : Gh n f m f' m') (h : AL P n ops Q rest f' m') : AL P n ops Q rest f m := fun B E w a hs => let ⟨E', hs'⟩ := hg B E w a hs; h B E' w a hs'
theorem AW.gh {c : Code} {f' : F} {m' : M} (hg : Gh n f m f' m') (h : AW P n c Q f' m') : AW P n c Q f m := fun B E w a hs => let ⟨E', hs'⟩ := hg B E w a hs; h B E' w a hs'
/-- Objects are forgotten. -/
theorem Gh.drop {m' : M} (h : m'.Sublist m) : Gh n f m f m' := fun B E w a hs => ⟨E, hs.1.sub h, hs.2⟩
theorem Gh.perm {m' : M} (h : m.Perm m') : Gh n f m f m' := fun B E w a hs => ⟨E, hs.1.perm h, hs.2⟩
/-- A value is known less well. -/
def Wk (a a' : AV) : Prop := ∀ E v, Rep E a v → Rep E a' v
theorem Wk.refl (a : AV) : Wk a a := fun _ _ h => h
theorem Wk.nil (c sz : Nat) : Wk .nilsl (.sl c sz []) := fun E v h => by cases h; exact .slnil _ _ _ _ (fun _ => rfl) (by decide)
theorem Wk.empty (c sz c' sz' : Nat) : Wk (.sl c sz []) (.sl c' sz' []) := fun E v h => by
  cases h with
  | slnil _ _ A cap hA hm => exact .slnil _ _ _ _ hA hm
  | sl _ _ _ b off cap blk T fr vs hb hc hm => exact .slnil _ _ _ _ (fun h => by cases h) hm
inductive Wks : List AV → List AV → Prop
  | nil : Wks [] []
  | cons {a a' : AV} {l l' : List AV} (h : Wk a a') (k : Wks l l') : Wks (a :: l) (a' :: l')
theorem Wks.refl : ∀ l, Wks l l
  | [] => .nil
  | a :: l => .cons (Wk.refl a) (Wks.refl l)
theorem Wks.reps {E : Env} {l l' : List AV} {vs : List Value} (h : Wks l l') (k : Reps E l vs) : Reps E l' vs := by
  induction h generalizing vs with
  | nil => exact k
  | cons h _ ih =>
    obtain ⟨v, r, rfl, hv, hr⟩ := k.cons_inv
    exact .cons (h E v hv) (ih hr)
theorem Rep.agg_iff {E : Env} {cells : List AV} {v : Value} : Rep E (.agg cells) v ↔ ∃ vs : Array Value, v = .agg vs ∧ Reps E cells vs.toList := by
  constructor
  · intro h
    cases h with
    | agg _ vs h1 h => exact ⟨vs, rfl, by simpa using h1, fun i hi => by have := h i hi; simpa [List.getD_eq_getElem?_getD, Array.getD_eq_getD_getElem?] using this⟩
  · rintro ⟨vs, rfl, h1, h⟩
    exact .agg _ _ (by simpa using h1) (fun i hi => by have := h i hi; simpa [List.getD_eq_getElem?_getD, Array.getD_eq_getD_getElem?] using this)
theorem Rep.tuple_iff {E : Env} {cells : List AV} {v : Value} : Rep E (.tuple cells) v ↔ ∃ vs : Array Value, v = .tuple vs ∧ Reps E cells vs.toList := by
  constructor
  · intro h
    cases h with
    | tuple _ vs h1 h => exact ⟨vs, rfl, by simpa using h1, fun i hi => by have := h i hi; simpa [List.getD_eq_getElem?_getD, Array.getD_eq_getD_getElem?] using this⟩
  · rintro ⟨vs, rfl, h1, h⟩
    exact .tuple _ _ (by simpa using h1) (fun i hi => by have := h i hi; simpa [List.getD_eq_getElem?_getD, Array.getD_eq_getD_getElem?] using this)
theorem Wk.agg {l l' : List AV} (h : Wks l l') : Wk (.agg l) (.agg l') := fun E v hv => by
  obtain ⟨vs, rfl, hr⟩ := Rep.agg_iff.1 hv
  exact Rep.agg_iff.2 ⟨vs, rfl, h.reps hr⟩
theorem Wk.tuple {l l' : List AV} (h : Wks l l') : Wk (.tuple l) (.tuple l') := fun E v hv => by
  obtain ⟨vs, rfl, hr⟩ := Rep.tuple_iff.1 hv
  exact Rep.tuple_iff.2 ⟨vs, rfl, h.reps hr⟩
theorem upd_at (f : F) (t : Nat) (v : AV) : upd f t v t = v := by simp [upd]
theorem upd_ne (f : F) {t k : Nat} (v : AV) (h : t ≠ k) : upd f k v t = f t := by
  unfold upd
  have : Nat.beq t k = false := by cases hb : Nat.beq t k with | false => rfl | true => exact absurd (Nat.eq_of_beq_eq_true hb) h
  rw [this]; rfl
theorem Gh.weak {t : Nat} {a a' : AV} (hf : f t = a) (h : Wk a a') : Gh n f m (upd f t a') m := fun B E w act hs => ⟨E, hs.1, hs.2.1, hs.2.2.1, fun k hk => by
  by_cases hkt : k = t
  · subst hkt; rw [upd_at]; exact h E _ (hf ▸ hs.2.2.2 k hk)
  · rw [upd_ne f a' hkt]; exact hs.2.2.2 k hk⟩
/-- A contract's result is known less well. -/
theorem ASpec.weak {fid : FuncId} {args : List AV} {R R' : AOut → M → Prop} (h : ASpec P fid args m R) (hr : ∀ o m', R o m' → ∃ o', R' o' m' ∧ ∀ E e, outRep E o e → outRep E o' e) : ASpec P fid args m R' :=
  fun E w vs hs hv => (h E w vs hs hv).mono fun e w' ⟨E', m', out, h1, h2, h3⟩ => let ⟨o', h4, h5⟩ := hr out m' h3; ⟨E', m', o', h1, h5 E' e h2, h4⟩
theorem outRep_wk {E : Env} {a a' : AV} {e : Ending} (h : Wk a a') (hr : outRep E (.ret a) e) : outRep E (.ret a') e := by
  cases e with
  | returned v => exact h E v hr
  | panicked => exact hr
  | outgrown => exact hr

/-! ### What is frozen -/
def Env.freeze (E : Env) (c b : Nat) (o : Obj) : Env := { E with I := fun c' b' => if c' = c ∧ b' = b then some o else E.I c' b' }
theorem Env.freeze_le (E : Env) {c b : Nat} {o : Obj} (h : E.I c b = none) : Env.le E (E.freeze c b o) :=
  ⟨fun c' b' o' h' => by
    show (if c' = c ∧ b' = b then some o else E.I c' b') = some o'
    rw [if_neg (fun ⟨h1, h2⟩ => by subst h1; subst h2; rw [h] at h'; cases h')]
    exact h', fun _ _ => rfl, Nat.le_refl _⟩
/-- An owned slice is nobody's any more: it never changes again. -/
theorem Sat.freeze {B : Base} {E : Env} {w : World} {g T sz : Nat} {rows : List (List AV)} {mr : M} (hs : Sat B E m w) (hm : m.Perm ((g, .vec T sz rows) :: mr)) (c : Nat) : ∃ E', Env.le E E' ∧ Sat B E' mr w ∧ Rep E' (.sl c sz rows) (E.θ g) := by
  have h := hs.perm hm
  obtain ⟨hsz, ⟨hθ, hnil⟩ | ⟨b, cap, cur, xs, hθ, hb, hle, hcm, hcur, htake, hrep, hone⟩⟩ := h.obj (g, .vec T sz rows) (by simp)
  · refine ⟨E, Env.le.refl E, h.sub (List.sublist_cons_self _ _), ?_⟩
    have hθ : E.θ g = _ := hθ
    rw [hθ, hnil]
    exact .slnil _ _ _ _ (fun _ => rfl) (by decide)
  · obtain ⟨fz, hfz, hb⟩ := hb
    have hθ : E.θ g = _ := hθ
    have hown := h.own (g, .vec T sz rows) (by simp) b (by rw [show E.θ (g, AObj.vec T sz rows).1 = E.θ g from rfl, hθ]; rfl)
    have hle' := E.freeze_le (o := .cells cur T fz) (hown.1 c)
    have h2 := h.sub (List.sublist_cons_self _ _)
    have hsep := List.pairwise_cons.1 h.sep
    refine ⟨E.freeze c b (.cells cur T fz), hle', { h2 with le := h2.le.trans hle', gro := ?_, imm := ?_, obj := ?_, own := ?_ }, ?_⟩
    · intro c' b' o' ho
      change (if c' = c ∧ b' = b then some _ else E.I c' b') = some o' at ho
      split at ho
      · rename_i hc
        rw [hc.2]
        exact .inr hown.2.1
      · exact h2.gro c' b' o' ho
    · intro c' b' o' ho
      change (if c' = c ∧ b' = b then some _ else E.I c' b') = some o' at ho
      split at ho
      · rename_i hc
        rw [hc.2, hb]
        exact ho
      · exact h2.imm c' b' o' ho
    · intro p hp
      exact (h2.obj p hp).mono hle' (h2.lt p hp) (fun _ _ => rfl)
    · intro p hp b' hb'
      obtain ⟨h3, h4, h5⟩ := h2.own p hp b' hb'
      refine ⟨fun c' => ?_, h4, h5⟩
      show (if c' = c ∧ b' = b then some _ else E.I c' b') = none
      rw [if_neg (fun (hc : c' = c ∧ b' = b) => (hsep.1 p hp).2 b (by rw [show E.θ (g, AObj.vec T sz rows).1 = E.θ g from rfl, hθ]; rfl) (hc.2 ▸ hb'))]
      exact h3 c'
    · rw [hθ]
      have hmulc : rows.length * sz ≤ cap * sz := Nat.mul_le_mul_right _ hle
      refine .sl c sz rows b 0 cap cur T fz (fun j => cur.getD j undef) (by show (if c = c ∧ b = b then some _ else E.I c b) = _; rw [if_pos ⟨rfl, rfl⟩]) hle hcm hsz (fun j hj => ?_) (fun j hj => ?_) (fun i hi j hj => ?_)
      · have : j < cur.size := by omega
        simp [Array.getD_eq_getD_getElem?, this]
      · have hjc : j < cur.size := by omega
        refine hone _ ?_
        simp [Array.getD_eq_getD_getElem?, hjc]
      · have hj' : j < sz := by rw [← hsz _ (List.getElem_mem hi)]; exact hj
        have hg := flatten_get hsz (i := i) (r := rows[i]) (by simp [hi]) hj'
        rw [List.getElem?_eq_getElem hj] at hg
        obtain ⟨v, hv, hr⟩ := hrep.get hg
        rw [← htake, List.getElem?_take] at hv
        split at hv
        · have : cur.getD (i * sz + j) undef = v := by simpa [Array.getD_eq_getD_getElem?] using congrArg (Option.getD · undef) hv
          rw [this]
          exact hr.mono hle'
        · cases hv
theorem Gh.freeze {t g T sz : Nat} {rows : List (List AV)} {mr : M} (c : Nat) (hf : f t = .vec g) (hm : m.Perm ((g, .vec T sz rows) :: mr)) (ht : t < n) : Gh n f m (upd f t (.sl c sz rows)) mr := fun B E w a hs => by
  obtain ⟨E', hle, hs', hr⟩ := hs.1.freeze hm c
  refine ⟨E', hs', hs.2.1, hs.2.2.1, fun k hk => ?_⟩
  by_cases hkt : k = t
  · subst hkt
    rw [upd_at]
    have := hs.2.2.2 k hk
    rw [hf] at this
    generalize a.tmps.getD k undef = u at this
    cases this
    exact hr
  · rw [upd_ne f _ hkt]
    exact (hs.2.2.2 k hk).mono hle
/-- The same, of a slice that stands in a variable's cell. -/
theorem Gh.freezeCell {g h T T' sz k : Nat} {cs cs' : List AV} {rows : List (List AV)} {mr : M} (c : Nat) (hm : m.Perm ((g, .vec T sz rows) :: (h, .blk T' cs) :: mr)) (hk : cs[k]? = some (.vec g)) (hc : cs.set k (.sl c sz rows) = cs') : Gh n f m f ((h, .blk T' cs') :: mr) := fun B E w a hs => by
  subst hc
  obtain ⟨E', hle, hs', hr⟩ := hs.1.freeze hm c
  refine ⟨E', ?_, hs.2.1, hs.2.2.1, fun t ht => (hs.2.2.2 t ht).mono hle⟩
  refine { hs' with obj := fun p hp => ?_, own := ?_, sep := ?_, lt := ?_, nm := ?_ }
  · rcases List.mem_cons.1 hp with rfl | hp
    · obtain ⟨b, vs, h1, h2, h3, h4⟩ := hs'.obj (h, .blk T' cs) (by simp)
      refine ⟨b, vs, h1, h2, .of_get (by simp [h3.1]) (fun i a' v ha hv => ?_), h4⟩
      rw [List.getElem?_set] at ha
      split at ha
      · rename_i hik
        split at ha
        · cases ha
          subst hik
          obtain ⟨u, hu, hru⟩ := h3.get hk
          rw [hu] at hv
          cases hv
          obtain ⟨b0, vs0, h10, h20, h30, h40⟩ := (hs.1.perm hm).obj (h, .blk T' cs) (by simp)
          obtain ⟨u0, hu0, hru0⟩ := h30.get hk
          have hb0 : b0 = b := by
            have e1 : E.θ h = _ := h10
            have e2 : E'.θ h = _ := h1
            have := hle.θ h ((hs.1.perm hm).lt (h, .blk T' cs) (by simp))
            rw [e1, e2] at this
            simpa using this.symm
          subst hb0
          rw [h20] at h2
          cases h2
          rw [hu0] at hu
          cases hu
          cases hru0
          exact hr
        · cases ha
      · obtain ⟨u, hu, hru⟩ := h3.get ha
        rw [hu] at hv
        cases hv
        exact hru
    · exact hs'.obj p (List.mem_cons_of_mem _ hp)
  · intro p hp
    rcases List.mem_cons.1 hp with rfl | hp
    · exact hs'.own (h, .blk T' cs) (by simp)
    · exact hs'.own p (List.mem_cons_of_mem _ hp)
  · have := List.pairwise_cons.1 hs'.sep
    exact List.pairwise_cons.2 ⟨this.1, this.2⟩
  · intro p hp
    rcases List.mem_cons.1 hp with rfl | hp
    · exact hs'.lt (h, .blk T' cs) (by simp)
    · exact hs'.lt p (List.mem_cons_of_mem _ hp)
  · intro p hp
    rcases List.mem_cons.1 hp with rfl | hp
    · exact hs'.nm (h, .blk T' cs) (by simp)
    · exact hs'.nm p (List.mem_cons_of_mem _ hp)
/-- A variable's cell is known less well. -/
theorem Gh.weakCells {h T' : Nat} {cs cs' : List AV} {mr : M} (hm : m.Perm ((h, .blk T' cs) :: mr)) (hw : Wks cs cs') : Gh n f m f ((h, .blk T' cs') :: mr) := fun B E w a hs => by
  have hs' := hs.1.perm hm
  refine ⟨E, ?_, hs.2⟩
  refine { hs' with obj := fun p hp => ?_, own := ?_, sep := ?_, lt := ?_, nm := ?_ }
  · rcases List.mem_cons.1 hp with rfl | hp
    · obtain ⟨b, vs, h1, h2, h3, h4⟩ := hs'.obj (h, .blk T' cs) (by simp)
      exact ⟨b, vs, h1, h2, hw.reps h3, h4⟩
    · exact hs'.obj p (List.mem_cons_of_mem _ hp)
  · intro p hp
    rcases List.mem_cons.1 hp with rfl | hp
    · exact hs'.own (h, .blk T' cs) (by simp)
    · exact hs'.own p (List.mem_cons_of_mem _ hp)
  · have := List.pairwise_cons.1 hs'.sep
    exact List.pairwise_cons.2 ⟨this.1, this.2⟩
  · intro p hp
    rcases List.mem_cons.1 hp with rfl | hp
    · exact hs'.lt (h, .blk T' cs) (by simp)
    · exact hs'.lt p (List.mem_cons_of_mem _ hp)
  · intro p hp
    rcases List.mem_cons.1 hp with rfl | hp
    · exact hs'.nm (h, .blk T' cs) (by simp)
    · exact hs'.nm p (List.mem_cons_of_mem _ hp)
end Go.V
