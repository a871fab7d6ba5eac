/- What is owned is frozen, with all that hangs on it. -/
import Derived.Test.YtflopnlnogjaoaaV16
set_option linter.unusedVariables false
set_option linter.unusedSimpArgs false
namespace Go.V
open Go Go.RowKit

variable {P : Program} {n : Nat} {f : F} {m ms mr : M} {Q : AQ} {ops : Array Oper} {rest : List Oper} {ty : TypeId} {ev : Operand → AV}

/-- With the objects ms given up, what was told as a is told as a'. -/
def Fz (ms : M) (a a' : AV) : Prop := ∀ B E w mr, Sat B E (ms ++ mr) w → ∃ E', Env.le E E' ∧ Sat B E' mr w ∧ ∀ v, Rep E a v → Rep E' a' v
def Fzs (ms : M) (l l' : List AV) : Prop := ∀ B E w mr, Sat B E (ms ++ mr) w → ∃ E', Env.le E E' ∧ Sat B E' mr w ∧ ∀ vs, Reps E l vs → Reps E' l' vs
theorem Fz.wk {a a' : AV} (h : Wk a a') : Fz [] a a' := fun B E w mr hs => ⟨E, Env.le.refl E, hs, fun v hv => h E v hv⟩
theorem Fz.refl (a : AV) : Fz [] a a := Fz.wk (Wk.refl a)
theorem Fz.perm {ms' : M} {a a' : AV} (hm : ms.Perm ms') (h : Fz ms' a a') : Fz ms a a' := fun B E w mr hs => h B E w mr (hs.perm (hm.append_right mr))
theorem Fzs.perm {ms' : M} {a a' : List AV} (hm : ms.Perm ms') (h : Fzs ms' a a') : Fzs ms a a' := fun B E w mr hs => h B E w mr (hs.perm (hm.append_right mr))
theorem Fzs.nil : Fzs [] [] [] := fun B E w mr hs => ⟨E, Env.le.refl E, hs, fun v hv => hv⟩
theorem Fzs.refl (l : List AV) : Fzs [] l l := fun B E w mr hs => ⟨E, Env.le.refl E, hs, fun v hv => hv⟩
theorem Fzs.cons {m1 m2 : M} {a a' : AV} {l l' : List AV} (h : Fz m1 a a') (k : Fzs m2 l l') : Fzs (m1 ++ m2) (a :: l) (a' :: l') := fun B E w mr hs => by
  rw [List.append_assoc] at hs
  obtain ⟨E1, hle1, hs1, h1⟩ := h B E w _ hs
  obtain ⟨E2, hle2, hs2, h2⟩ := k B E1 w _ hs1
  refine ⟨E2, hle1.trans hle2, hs2, fun vs hvs => ?_⟩
  obtain ⟨v, r, rfl, hv, hr⟩ := hvs.cons_inv
  exact .cons ((h1 v hv).mono hle2) (h2 r (hr.mono hle1))
theorem Fzs.keep {a : AV} {l l' : List AV} (h : Fzs ms l l') : Fzs ms (a :: l) (a :: l') := Fzs.cons (Fz.refl a) h
theorem Fzs.one {a a' : AV} {l : List AV} (h : Fz ms a a') : Fzs ms (a :: l) (a' :: l) := by
  have := Fzs.cons h (Fzs.refl l)
  rwa [List.append_nil] at this
theorem Fzs.append {m1 m2 : M} {l1 l1' l2 l2' : List AV} (h : Fzs m1 l1 l1') (k : Fzs m2 l2 l2') : Fzs (m1 ++ m2) (l1 ++ l2) (l1' ++ l2') := fun B E w mr hs => by
  rw [List.append_assoc] at hs
  obtain ⟨E1, hle1, hs1, h1⟩ := h B E w _ hs
  obtain ⟨E2, hle2, hs2, h2⟩ := k B E1 w _ hs1
  refine ⟨E2, hle1.trans hle2, hs2, fun vs hvs => ?_⟩
  have e1 : (l1 ++ l2).take l1.length = l1 := by simp
  have e2 : (l1 ++ l2).drop l1.length = l2 := by simp
  have hv1 := hvs.take l1.length
  have hv2 := hvs.drop l1.length
  rw [e1] at hv1
  rw [e2] at hv2
  rw [← List.take_append_drop l1.length vs]
  exact ((h1 _ hv1).mono hle2).append (h2 _ (hv2.mono hle1))
theorem Fzs.flatMap {α : Type} {fm : α → M} {fl fl' : α → List AV} : ∀ {ds : List α}, (∀ d, d ∈ ds → Fzs (fm d) (fl d) (fl' d)) → Fzs (ds.flatMap fm) (ds.flatMap fl) (ds.flatMap fl')
  | [], _ => .nil
  | d :: ds, h => by
    rw [List.flatMap_cons, List.flatMap_cons, List.flatMap_cons]
    exact (h d (by simp)).append (Fzs.flatMap (fun d hd => h d (by simp [hd])))
theorem flatMap_one {α β : Type} (g : α → β) : ∀ ds : List α, ds.flatMap (fun d => [g d]) = ds.map g
  | [] => rfl
  | d :: ds => by rw [List.flatMap_cons, flatMap_one g ds]; rfl
/-- The same, of one object each. -/
theorem Fzs.map {α : Type} {fm : α → Nat × AObj} {fl fl' : α → List AV} {ds : List α} (h : ∀ d, d ∈ ds → Fzs [fm d] (fl d) (fl' d)) : Fzs (ds.map fm) (ds.map fl).flatten (ds.map fl').flatten := by
  have := Fzs.flatMap (fm := fun d => [fm d]) h
  rw [flatMap_one] at this
  simpa [List.flatMap_def] using this
theorem Fz.agg {l l' : List AV} (h : Fzs ms l l') : Fz ms (.agg l) (.agg l') := fun B E w mr hs => by
  obtain ⟨E', hle, hs', hr⟩ := h B E w mr hs
  refine ⟨E', hle, hs', fun v hv => ?_⟩
  obtain ⟨vs, rfl, hvs⟩ := Rep.agg_iff.1 hv
  exact Rep.agg_iff.2 ⟨vs, rfl, hr _ hvs⟩
theorem Fz.tuple {l l' : List AV} (h : Fzs ms l l') : Fz ms (.tuple l) (.tuple l') := fun B E w mr hs => by
  obtain ⟨E', hle, hs', hr⟩ := h B E w mr hs
  refine ⟨E', hle, hs', fun v hv => ?_⟩
  obtain ⟨vs, rfl, hvs⟩ := Rep.tuple_iff.1 hv
  exact Rep.tuple_iff.2 ⟨vs, rfl, hr _ hvs⟩
/-- An owned slice, whose elements are frozen too. -/
theorem Fz.vec {g T sz c : Nat} {rows rows' : List (List AV)} (h : Fzs ms rows.flatten rows'.flatten) (hl : rows'.length = rows.length) (hsz : ∀ r, r ∈ rows' → r.length = sz) : Fz ((g, .vec T sz rows) :: ms) (.vec g) (.sl c sz rows') := fun B E w mr hs => by
  have hp : ((g, AObj.vec T sz rows) :: ms ++ mr).Perm (ms ++ ((g, .vec T sz rows) :: mr)) := by rw [List.cons_append]; exact List.perm_middle.symm
  obtain ⟨E1, hle1, hs1, hr1⟩ := h B E w _ (hs.perm hp)
  have hg : g < E.n := hs.lt (g, .vec T sz rows) (by simp)
  have hθ := hle1.θ g hg
  have hobj : ObjAt E1 w g (.vec T sz rows') := by
    obtain ⟨hr, ⟨hθ0, hnil⟩ | ⟨b, cap, cur, xs, hθ0, hb, hle, hcm, hcur, htake, hrep, hone⟩⟩ := hs.obj (g, .vec T sz rows) (by simp)
    · exact ⟨hsz, .inl ⟨hθ.trans hθ0, List.eq_nil_of_length_eq_zero (by rw [hl, hnil]; rfl)⟩⟩
    · exact ⟨hsz, .inr ⟨b, cap, cur, xs, by rw [hl]; exact hθ.trans hθ0, hb, by rw [hl]; exact hle, hcm, hcur, by rw [hl]; exact htake, hr1 _ hrep, hone⟩⟩
  have hs2 := hs1.put (w' := w) (o' := .vec T sz rows') (List.Perm.refl _) rfl rfl rfl (Nat.le_refl _) (fun _ _ _ => rfl) hobj
  obtain ⟨E2, hle2, hs3, hr2⟩ := hs2.freeze (List.Perm.refl _) c
  refine ⟨E2, hle1.trans hle2, hs3, fun v hv => ?_⟩
  cases hv
  rw [← hθ]
  exact hr2
theorem Fz.vec1 {g T sz c : Nat} {rows : List (List AV)} (hsz : ∀ r, r ∈ rows → r.length = sz) : Fz [(g, .vec T sz rows)] (.vec g) (.sl c sz rows) := Fz.vec (Fzs.refl _) rfl hsz
/-! ## Used -/
theorem Gh.fz {t : Nat} {a a' : AV} (hf : f t = a) (hm : m.Perm (ms ++ mr)) (h : Fz ms a a') (ht : t < n) : Gh n f m (upd f t a') mr := fun B E w a hs => by
  obtain ⟨E', hle, hs', hr⟩ := h B E w mr (hs.1.perm hm)
  refine ⟨E', hs', hs.2.1, hs.2.2.1, fun k hk => ?_⟩
  by_cases hkt : k = t
  · subst hkt
    rw [upd_at]
    have := hs.2.2.2 k hk
    rw [hf] at this
    exact hr _ this
  · rw [upd_ne f _ hkt]
    exact (hs.2.2.2 k hk).mono hle
theorem Gh.fzBlk {g T : Nat} {cs cs' : List AV} (hm : m.Perm ((g, .blk T cs) :: (ms ++ mr))) (h : Fzs ms cs cs') : Gh n f m f ((g, .blk T cs') :: mr) := fun B E w a hs => by
  have hs0 := hs.1.perm hm
  obtain ⟨E', hle, hs', hr⟩ := h B E w ((g, .blk T cs) :: mr) (hs0.perm List.perm_middle.symm)
  have hg : g < E.n := hs0.lt (g, .blk T cs) (by simp)
  have hobj : ObjAt E' w g (.blk T cs') := by
    obtain ⟨b, vs, h1, h2, h3, h4⟩ := hs0.obj (g, .blk T cs) (by simp)
    exact ⟨b, vs, (hle.θ g hg).trans h1, h2, hr _ h3, h4⟩
  have hs2 := hs'.put (w' := w) (o' := .blk T cs') (List.Perm.refl _) rfl rfl rfl (Nat.le_refl _) (fun _ _ _ => rfl) hobj
  exact ⟨E', hs2, hs.2.1, hs.2.2.1, fun k hk => (hs.2.2.2 k hk).mono hle⟩
/-- What is answered is frozen. -/
theorem ASpec.fz {fid : FuncId} {args : List AV} {R R' : AOut → M → Prop} (h : ASpec P fid args m R) (hr : ∀ o m', R o m' → ∃ a a' ms mr, o = .ret a ∧ m'.Perm (ms ++ mr) ∧ Fz ms a a' ∧ R' (.ret a') mr) : ASpec P fid args m R' := fun E w vs hs hv => by
  refine (h E w vs hs hv).mono fun e w' ⟨E', m', out, h1, h2, h3⟩ => ?_
  obtain ⟨a, a', ms, mr, rfl, hm, hz, hR⟩ := hr _ _ h3
  obtain ⟨E2, hle, hs2, hrr⟩ := hz _ _ _ _ (h1.perm hm)
  refine ⟨E2, mr, .ret a', hs2, ?_, hR⟩
  cases e with
  | returned v => exact hrr v h2
  | panicked => exact h2.elim
  | outgrown => exact h2.elim
/-! ## Guarded effects in a chain -/
section
variable {d : Option Nat} {pos : String} {after : Array Edge} {i : Nat} {r : List (Nat × Nat)} {S : M} {op : Op} {g : Option (Nat × Bool)} {K : F → M → Prop}
theorem EF.guarded (h : EF P n S ⟨d, op, ty, pos, after, none⟩ f m K) : EF P n S ⟨d, op, ty, pos, after, g⟩ f m K := fun B E w a hs h1 h2 h3 Q' => h B E w a hs h1 h2 h3 Q'
theorem Chain.alG {K : AV → M → Prop} {j d0 : Nat} {want : Bool} (ho : ops[i]? = some ⟨d, op, ty, pos, after, some (j, want)⟩) (hdj : (ops[j]?).bind (·.dst) = some d0) (hf : f d0 = .bool want) (hd : dstIn n ⟨d, op, ty, pos, after, none⟩ = true)
    (h : ∀ f0, (∀ x, x ∈ op.operands → evF f0 x = evF f x) → AL P n ops (fun e f' m' => e = .normal ∧ ∃ v, f' = updO f0 d v ∧ K v m' ∧ ∃ x, m'.Perm (S ++ x)) [⟨d, op, ty, pos, after, none⟩] f0 m)
    (hK : ∀ v m', K v m' → Chain P n ops Q S r (updO f d v) m') : Chain P n ops Q S ((i, 1) :: r) f m :=
  Chain.eff _ ho ⟨d0, hdj, .inl ⟨want, hf, by simp⟩⟩ (EF.guarded (EF.of_AL (o := ⟨d, op, ty, pos, after, none⟩) rfl h (dstIn_spec hd))) (fun f' m' ⟨v, h1, h2⟩ => by subst h1; exact hK v m' h2)
theorem Chain.clmG {fid : FuncId} {fx : Operand} {xs : Array Operand} {ts : Array TypeId} {af ac args : List AV} {R : AOut → M → Prop} {j d0 : Nat} {want : Bool} [FnT P fid] (ho : ops[i]? = some ⟨d, .call { callee := .value fx, args := xs, argTypes := ts }, ty, pos, after, some (j, want)⟩) (hdj : (ops[j]?).bind (·.dst) = some d0) (hf : f d0 = .bool want)
    (hm : m.Perm (ms ++ mr)) (hS : ∃ y, mr.Perm (S ++ y)) (hc : ASpec P fid args ms R)
    (hx : evF f fx = .fn (.func fid) af ac) (ha : af ++ xs.toList.map (evF f) ++ ac = args) (hin : opsIn n (.call { callee := .value fx, args := xs, argTypes := ts }) = true) (hd : dstIn n ⟨d, .call { callee := .value fx, args := xs, argTypes := ts }, ty, pos, after, none⟩ = true) (hp : ∀ v m', ¬ R (.pan v) m') (k : ∀ v m', R (.ret v) m' → Chain P n ops Q S r (updO f d v) (m' ++ mr)) : Chain P n ops Q S ((i, 1) :: r) f m := by
  refine Chain.alG (K := fun v m'' => ∃ m', R (.ret v) m' ∧ m'' = m' ++ mr) ho hdj hf hd (fun f0 h0 => ?_) (fun v m'' ⟨m', h1, h2⟩ => by subst h2; exact k v m' h1)
  have hfx : evF f0 fx = evF f fx := h0 fx (by simp [Op.operands, Call.operands])
  have hxs : xs.toList.map (evF f0) = xs.toList.map (evF f) := List.map_congr_left (fun x hx => h0 x (by simp [Op.operands, Call.operands]; exact .inr (by simpa using hx)))
  refine AL.cl (hfx.trans hx) (by rw [hxs]; exact ha) hin hm hc (fun out m' hR => ?_)
  cases out with
  | ret v =>
    obtain ⟨y, hy⟩ := hS
    exact AL.nil ⟨rfl, v, rfl, ⟨m', hR, rfl⟩, m' ++ y, (hy.append_left m').trans (by rw [← List.append_assoc, ← List.append_assoc]; exact List.perm_append_comm.append_right y)⟩
  | pan v => exact (hp v m' hR).elim
theorem Chain.clG0 {fid : FuncId} {fx : Operand} {xs : Array Operand} {ts : Array TypeId} {af ac args : List AV} {v : AV} {j d0 : Nat} {want : Bool} [FnT P fid] (hS : ∃ y, m.Perm (S ++ y)) (ho : ops[i]? = some ⟨d, .call { callee := .value fx, args := xs, argTypes := ts }, ty, pos, after, some (j, want)⟩) (hdj : (ops[j]?).bind (·.dst) = some d0) (hf : f d0 = .bool want) (hc : ASpec P fid args [] (fun o m => o = .ret v ∧ m = []))
    (hx : evF f fx = .fn (.func fid) af ac) (ha : af ++ xs.toList.map (evF f) ++ ac = args) (hin : opsIn n (.call { callee := .value fx, args := xs, argTypes := ts }) = true) (hd : dstIn n ⟨d, .call { callee := .value fx, args := xs, argTypes := ts }, ty, pos, after, none⟩ = true) (k : Chain P n ops Q S r (updO f d v) m) : Chain P n ops Q S ((i, 1) :: r) f m :=
  Chain.clmG (ms := []) (mr := m) ho hdj hf (by simp) hS hc hx ha hin hd (fun v m' h => by cases h.1) (fun v' m' h => by obtain ⟨h1, h2⟩ := h; cases h1; subst h2; exact k)
end
end Go.V
