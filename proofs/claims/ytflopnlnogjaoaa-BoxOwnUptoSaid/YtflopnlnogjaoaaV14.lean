/- Calls that are walked in place. -/
import Derived.Test.YtflopnlnogjaoaaV13
set_option linter.unusedVariables false
set_option linter.unusedSimpArgs false
namespace Go.V
open Go Go.RowKit

variable {P : Program} {n : Nat} {f : F} {m : M} {Q : AQ} {ops : Array Oper} {rest : List Oper} {ty : TypeId}

theorem AL.inl {fid : FuncId} {fn : Func} {c : Code} {rs : List ResultVar} {n' : Nat} {d : Option Nat} {pos : String} {after : Array Edge} {fx : Operand} {xs : Array Operand} {ts : Array TypeId} {af ac args : List AV} [FnT P fid]
    (hf : P.funcs[fid]? = some fn) (hb : fn.body = some c) (hn : fn.ntmps = n') (hx : evF f fx = .fn (.func fid) af ac) (ha : forceL (af ++ xs.toList.map (evF f) ++ ac) = some args) (hin : opsIn n (.call { callee := .value fx, args := xs, argTypes := ts }) = true) (hal : Nat.ble args.length n' = true) (hrs : fn.results = rs.toArray) (hri : rsIn n' rs = true)
    (h : AW P n' c (bodyQ P rs (fun out m' => match out with | .ret v => AL P n ops Q rest (updO f d v) m' | .pan v => Q (.panic v) f m')) (argF args) m) :
    AL P n ops Q (⟨d, .call { callee := .value fx, args := xs, argTypes := ts }, ty, pos, after, none⟩ :: rest) f m :=
  AL.cl (ms := m) (mr := []) hx (forceL_eq ha) hin (by simp) (ASpec.of_body hf hb hn (by simpa using hal) hrs hri h) (fun out m' h => by
    cases out with
    | ret v => simpa using h
    | pan v => simpa using h)

variable {ev : Operand → AV}
/-! ## Arrays -/
theorem run_indexArr {t k e sz bytes : Nat} [ht : ArrT P t k e] [hz : Sz P e sz bytes] (b off : Nat) (ik : IntKind) (i : Int) (h0 : 0 ≤ i) (h1 : i < k) (w : World) :
    (Instr.indexAt t (.pointer (some ⟨b, off, none⟩)) (.int ik i)).run P w = .ok (.pointer (some ⟨b, off + i.toNat * sz, none⟩)) w := by
  simp [Instr.indexAt, run_underlying ht.out, asIntOf, Instr.sureAddr, h0, h1, run_sizeOf, Addr.add_lit]
theorem op_ixa {t k e sz bytes g off : Nat} {x y : Operand} {ik : IntKind} {i : Int} [ArrT P t k e] [Sz P e sz bytes] (hx : ev x = .ptr g off) (hy : ev y = .int ik i) (h0 : 0 ≤ i) (h1 : i < k) : AOp P m (.indexAddr t x y) ty ev (.ptr g (off + i.toNat * sz)) :=
  .of fun E ρ oo ho _ hr => by
    have k1 := hx ▸ hr x (by simp [Op.operands])
    have k2 := int_inv (hy ▸ hr y (by simp [Op.operands]))
    generalize hv : ρ x = u at k1
    cases k1 with
    | ptr _ _ b hg h => exact ⟨_, .ptr g _ b hg h, fun w => by simp [execOp, ho, hv, k2, run_indexArr b off ik i h0 h1]⟩
theorem op_ixav {t k e sz bytes g j z off : Nat} {x y : Operand} {ik : IntKind} {i : Int} [ArrT P t k e] [Sz P e sz bytes] (hx : ev x = .vptr g j z off) (hy : ev y = .int ik i) (h0 : 0 ≤ i) (h1 : i < k) : AOp P m (.indexAddr t x y) ty ev (.vptr g j z (off + i.toNat * sz)) :=
  .of fun E ρ oo ho _ hr => by
    have k1 := hx ▸ hr x (by simp [Op.operands])
    have k2 := int_inv (hy ▸ hr y (by simp [Op.operands]))
    generalize hv : ρ x = u at k1
    cases k1 with
    | vptr _ _ _ _ b len cap hg h =>
      refine ⟨_, .vptr g j z _ b len cap hg h, fun w => ?_⟩
      simp [execOp, ho, hv, k2, run_indexArr b (j * z + off) ik i h0 h1, Nat.add_assoc]
theorem op_bda {t k e sz bytes : Nat} {parts : Array (Nat × Operand)} {aparts : List (Nat × AV)} {z : AV} {cells : List AV} [ht : ArrT P t k e] [hsz : Sz P e sz bytes] [hz : ZeroT P t z] (hpa : parts.toList.map (fun p => (p.1, ev p.2)) = aparts)
    (hzok : okCells z = true) (ha : (afill (fun i => some (i * sz, sz)) (cellsOf z) aparts).bind forceL = some cells) : AOp P m (.build t parts) ty ev (.agg cells) :=
  .of fun E ρ o ho _ hr => by
    subst hpa
    cases hfl : afill (fun i => some (i * sz, sz)) (cellsOf z) (parts.toList.map (fun p => (p.1, ev p.2))) with
    | none => rw [hfl] at ha; cases ha
    | some cs =>
      rw [hfl] at ha
      obtain rfl := forceL_eq (show forceL cs = some cells from ha)
      obtain ⟨zv, hzv, hrz⟩ := hz.out
      obtain ⟨hcs, _⟩ := cells_rep (hrz E) hzok
      obtain ⟨vs', hv', hrep⟩ := fill_rep (E := E) (place := fun i => some (i * sz, sz)) (vs := zv.cells) (parts := parts.toList.map (fun p => (p.1, ev p.2))) (vparts := parts.toList.map (fun p => (p.1, ρ p.2))) hcs (by simp) (fun k p q hk hk' => by
        simp only [List.getElem?_map, Option.map_eq_some_iff] at hk hk'
        obtain ⟨a, ha1, rfl⟩ := hk
        obtain ⟨b, hb1, rfl⟩ := hk'
        rw [ha1] at hb1
        cases hb1
        exact ⟨rfl, hr _ (by simp only [Op.operands]; simp; exact ⟨a.1, by simpa using List.mem_of_getElem? ha1⟩)⟩) hfl
      refine ⟨.agg vs', Rep.agg_iff.2 ⟨vs', rfl, hrep⟩, fun w => ?_⟩
      have hzr : (zeroValue t).run P w = .ok zv w := by
        cases hq : P.info? t with
        | none => simp [hq] at hzv
        | some i => simp [hq] at hzv; simp [zeroValue, typeInfo, hq, hzv]
      have : (Instr.build t (parts.map fun (i, x) => (i, ρ x))).run P w = .ok (.agg vs') w := by
        unfold Instr.build
        simp only [Sem.run_bind, hzr, Result.andThen_ok, run_underlying ht.out, run_sizeOf, Array.toList_map]
        rw [hv']
        rfl
      simp [execOp, ho, this]

/-! ## The least and the greatest -/
theorem op_min {x y : Operand} {ts : Array TypeId} {k : IntKind} {a b : Int} (hx : ev x = .int k a) (hy : ev y = .int k b) : AOp P m (.call { callee := .builtin .min, args := #[x, y], argTypes := ts }) ty ev (.int k (if b < a then b else a)) :=
  .of fun E ρ o ho _ hr => by
    have k1 := int_inv (hx ▸ hr x (by simp [Op.operands, Call.operands]))
    have k2 := int_inv (hy ▸ hr y (by simp [Op.operands, Call.operands]))
    exact ⟨_, .int _ _, fun w => by simp [execOp, ho, resolve, invoke, builtin, k1, k2, Builtin.min_, Builtin.min2]⟩
theorem op_max {x y : Operand} {ts : Array TypeId} {k : IntKind} {a b : Int} (hx : ev x = .int k a) (hy : ev y = .int k b) : AOp P m (.call { callee := .builtin .max, args := #[x, y], argTypes := ts }) ty ev (.int k (if a < b then b else a)) :=
  .of fun E ρ o ho _ hr => by
    have k1 := int_inv (hx ▸ hr x (by simp [Op.operands, Call.operands]))
    have k2 := int_inv (hy ▸ hr y (by simp [Op.operands, Call.operands]))
    exact ⟨_, .int _ _, fun w => by simp [execOp, ho, resolve, invoke, builtin, k1, k2, Builtin.max_, Builtin.max2]⟩

/-! ## A string's letters, one by one -/
section
variable {d : Option Nat} {pos : String} {after : Array Edge} {t : TypeId} {x : Operand}
theorem AL.rangeStr {s : List UInt8} [ht : StrT P t] (hx : evF f x = .str s) (hin : oIn n x = true) (h : ∀ g, AL P n ops Q rest (updO f d (.ptr g 0)) ((g, .siter s 0) :: m)) : AL P n ops Q (⟨d, .range t x, ty, pos, after, none⟩ :: rest) f m := by
  refine AL.step rfl rfl fun B E w a hs => ?_
  have hr := evF_rep hs x (oIn_spec hin)
  rw [hx] at hr
  have hv := str_inv hr
  refine ⟨.pointer (some ⟨w.heap.size, 0, none⟩), w.alloc (.stringIter (Bs s) 0), ?_, E.bind (.pointer (some ⟨w.heap.size, 0, none⟩)), .ptr E.n 0, (E.n, .siter s 0) :: m, Env.bind_le _ _, ?_, .ptr _ _ _ (Nat.lt_succ_self _) (Env.bind_θ _ _), h E.n⟩
  · simp [execOp, hv, Instr.range, run_underlying ht.out]
  · exact hs.1.new (old := []) (by simp) _ _ rfl rfl rfl (by simp) (fun b hb _ => heap_alloc_lt w _ hb) (fun b hb => by cases hb; exact ⟨.inr (Nat.le_refl _), by simp⟩) ⟨w.heap.size, Env.bind_θ _ _, heap_alloc_at w _⟩
theorem AL.nextStr {s : List UInt8} {g p c wd : Nat} {mr : M} (hx : evF f x = .ptr g 0) (hin : oIn n x = true) (hm : m.Perm ((g, .siter s p) :: mr)) (hp : p < s.length) (hd : Utf8.decode (Bs s) p = (c, wd))
    (h : AL P n ops Q rest (updO f d (.tuple [.bool true, .int .i64 p, .int .i32 c])) ((g, .siter s (p + wd)) :: mr)) : AL P n ops Q (⟨d, .next x true, ty, pos, after, none⟩ :: rest) f m := by
  refine AL.step rfl rfl fun B E w a hs => ?_
  have hr := evF_rep hs x (oIn_spec hin)
  rw [hx] at hr
  obtain ⟨r, hθ, hb⟩ := (hs.1.perm hm).obj (g, .siter s p) (by simp)
  have hθ : E.θ g = _ := hθ
  generalize hu : a.eval x = u at hr
  cases hr with
  | ptr _ _ b hg hθ' =>
    rw [hθ'] at hθ
    simp at hθ
    subst hθ
    have hlt : b < w.heap.size := (Array.getElem?_eq_some_iff.1 hb).1
    refine ⟨.tuple #[.bool true, .int .i64 p, .int .i32 c], { w with heap := w.heap.setIfInBounds b (.stringIter (Bs s) (p + wd)) }, ?_, E, .tuple [.bool true, .int .i64 p, .int .i32 c], (g, .siter s (p + wd)) :: mr, Env.le.refl E, ?_, ?_, h⟩
    · have hp' : p < (Bs s).size := by rw [Bs_size]; exact hp
      simp [execOp, hu, Instr.next, getObj, setObj, Sem.run, hb, hp', hd, goInt]
    · refine hs.1.put hm rfl rfl rfl (by simp) (fun b' hb' hne => ?_) ⟨b, hθ', ?_⟩
      · have : b ≠ b' := fun e => hne (by rw [hθ', e]; rfl)
        simp [Array.getElem?_setIfInBounds, this]
      · simp [Array.getElem?_setIfInBounds, hlt]
    · exact Rep.tuple_iff.2 ⟨_, rfl, .cons (.bool _) (.cons (.int _ _) (.cons (.int _ _) (.nil E)))⟩
theorem AL.nextOver {s : List UInt8} {g p : Nat} [hh : Has m g (.siter s p)] (hx : evF f x = .ptr g 0) (hin : oIn n x = true) (hp : s.length ≤ p)
    (h : AL P n ops Q rest (updO f d (.tuple [.bool false])) m) : AL P n ops Q (⟨d, .next x true, ty, pos, after, none⟩ :: rest) f m := by
  refine AL.step rfl rfl fun B E w a hs => ?_
  have hr := evF_rep hs x (oIn_spec hin)
  rw [hx] at hr
  obtain ⟨r, hθ, hb⟩ := hs.1.obj (g, .siter s p) hh.out
  have hθ : E.θ g = _ := hθ
  generalize hu : a.eval x = u at hr
  cases hr with
  | ptr _ _ b hg hθ' =>
    rw [hθ'] at hθ
    simp at hθ
    subst hθ
    have hp' : ¬ p < (Bs s).size := by rw [Bs_size]; omega
    exact ⟨.tuple #[.bool false], w, by simp [execOp, hu, Instr.next, getObj, Sem.run, hb, hp'], E, .tuple [.bool false], m, Env.le.refl E, hs.1, Rep.tuple_iff.2 ⟨_, rfl, .cons (.bool _) (.nil E)⟩, h⟩
end
end Go.V
