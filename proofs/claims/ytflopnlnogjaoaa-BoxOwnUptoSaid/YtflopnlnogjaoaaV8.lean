/- Comparing with nil; small helpers for walks. -/
import Derived.Test.YtflopnlnogjaoaaV7
set_option linter.unusedVariables false
set_option linter.unusedSimpArgs false
namespace Go.V
open Go Go.RowKit

variable {P : Program} {n : Nat} {f : F} {m : M} {Q : AQ} {ops : Array Oper} {rest : List Oper} {ev : Operand → AV} {ty : TypeId}

theorem run_equal_slice {t e : TypeId} [ht : SliceT P t e] (A : Option Addr) (k c : Nat) (w : World) : (Op.equal t (.slice A k c) (.slice none 0 0)).run P w = .ok A.isNone w := by
  show (Op.equalIn (9999 + 1) t _ _).run P w = _
  generalize 9999 = d
  unfold Op.equalIn
  simp only [Sem.run_bind, run_underlying ht.out, Result.andThen_ok]
  cases A <;> rfl
theorem AL.eqNil {d : Option Nat} {t e yt c sz : Nat} {x : Operand} {rows : List (List AV)} {pos : String} {after : Array Edge} [ht : SliceT P t e] (hx : evF f x = .sl c sz rows) (hin : oIn n x = true)
    (h : ∀ b, (b = true → rows = []) → AL P n ops Q rest (updO f d (.bool b)) m) : AL P n ops Q (⟨d, .binOp .eql t x (.const (.slice none 0 0)) yt, ty, pos, after, none⟩ :: rest) f m := by
  refine AL.step rfl rfl fun B E w a hs => ?_
  have hr := evF_rep hs x (oIn_spec hin)
  rw [hx] at hr
  have hsh : ∃ A k cp, a.eval x = .slice A k cp ∧ (A = none → rows = []) := by
    generalize a.eval x = u at hr
    cases hr with
    | slnil _ _ A cap => exact ⟨A, 0, cap, rfl, fun _ => rfl⟩
    | sl _ _ _ b off cap => exact ⟨_, _, _, rfl, fun h => by cases h⟩
  obtain ⟨A, k, cp, hv, hn⟩ := hsh
  refine ⟨.bool A.isNone, w, ?_, E, .bool A.isNone, m, Env.le.refl E, hs.1, .bool _, h _ (fun hb => hn (by simpa using hb))⟩
  have hrun : (binOp .eql t (.slice A k cp) (.slice none 0 0)).run P w = .ok (.bool A.isNone) w := by
    show (do pure (Value.bool (← Op.equal t (.slice A k cp) (.slice none 0 0)))).run P w = _
    simp only [Sem.run_bind, run_equal_slice A k cp, Result.andThen_ok, Sem.run_pure]
  have hev : a.eval (.const (.slice none 0 0)) = .slice none 0 0 := rfl
  simp [execOp, hv, hev, eqGuard_at_slice, hrun]
/-- nil is an owned slice of no elements, under a new name. -/
theorem Gh.vecNil {t T sz : Nat} {f' : F} {m' : M} (hf : f t = .nilsl) (h : ∀ g, Gh n (upd f t (.vec g)) ((g, .vec T sz []) :: m) f' m') : Gh n f m f' m' := fun B E w a hs => by
  have hnew := hs.1.new (old := []) (mr := m) (w' := w) (by simp) (.slice none 0 0) (.vec T sz []) rfl rfl rfl (Nat.le_refl _) (fun _ _ _ => rfl) (fun b hb => by cases hb) ⟨(fun r hr => by cases hr), .inl ⟨Env.bind_θ _ _, rfl⟩⟩
  refine h E.n B (E.bind (.slice none 0 0)) w a ⟨hnew, hs.2.1, hs.2.2.1, fun k hk => ?_⟩
  by_cases hkt : k = t
  · subst hkt
    rw [upd_at]
    have := hs.2.2.2 k hk
    rw [hf] at this
    generalize a.tmps.getD k undef = u at this
    cases this
    have := Rep.vec (E := E.bind (.slice none 0 0)) E.n (Nat.lt_succ_self _) (by rw [Env.bind_θ]; rfl)
    rwa [Env.bind_θ] at this
  · rw [upd_ne f _ hkt]
    exact (hs.2.2.2 k hk).mono (Env.bind_le _ _)
theorem AW.vecNil {c : Code} {t : Nat} (T sz : Nat) (hf : f t = .nilsl) (h : ∀ g, AW P n c Q (upd f t (.vec g)) ((g, .vec T sz []) :: m)) : AW P n c Q f m := fun B E w a hs => by
  obtain ⟨g, E', hs'⟩ : ∃ g, ∃ E', SatF B E' n (upd f t (.vec g)) ((g, .vec T sz []) :: m) a w := by
    have hnew := hs.1.new (old := []) (mr := m) (w' := w) (by simp) (.slice none 0 0) (.vec T sz []) rfl rfl rfl (Nat.le_refl _) (fun _ _ _ => rfl) (fun b hb => by cases hb) ⟨(fun r hr => by cases hr), .inl ⟨Env.bind_θ _ _, rfl⟩⟩
    refine ⟨E.n, E.bind (.slice none 0 0), hnew, hs.2.1, hs.2.2.1, fun k hk => ?_⟩
    by_cases hkt : k = t
    · subst hkt
      rw [upd_at]
      have := hs.2.2.2 k hk
      rw [hf] at this
      generalize a.tmps.getD k undef = u at this
      cases this
      have := Rep.vec (E := E.bind (.slice none 0 0)) E.n (Nat.lt_succ_self _) (by rw [Env.bind_θ]; rfl)
      rwa [Env.bind_θ] at this
    · rw [upd_ne f _ hkt]
      exact (hs.2.2.2 k hk).mono (Env.bind_le _ _)
  exact h g B E' w a hs'

theorem blockQ_same {id : Nat} (h : Q .normal f m) : blockQ id Q (.exit id) f m := by simp only [blockQ, if_true]; exact h
theorem blockQ_other {i id : Nat} (hi : i ≠ id) (h : Q (.exit i) f m) : blockQ id Q (.exit i) f m := by simp only [blockQ, if_neg hi]; exact h
end Go.V
