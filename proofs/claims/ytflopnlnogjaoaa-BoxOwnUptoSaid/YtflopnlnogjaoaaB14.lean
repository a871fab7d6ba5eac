/- BoxOwn of layer 8 (box) answers true and leaves what it is given as it was, for every box, bytes and turn that together hold at most 1048576 values and letters. -/
import Derived.Test.YtflopnlnogjaoaaB13
import Derived.Test.YtflopnlnogjaoaaV20
import Derived.Test.YtflopnlnogjaoaaRows
namespace Go.Proofs.BX
open Go Go.V Go.RowKit Go.ChangeShapes Go.WideShapes Go.ChangeAt Go.Proofs.Ytflopnlnogjaoaa
set_option maxRecDepth 10000
set_option maxHeartbeats 4000000
theorem opn_bytes : Opn Try.prog 25 (fun l b => ∃ p : List UInt8, l = [.sl 0 1 (bytesC p)] ∧ p.length < b) := Opn.bytes Try.underlying25 Try.underlying5 (by kernel_rfl)
theorem opn_letter : Opn Try.prog 29 (fun l b => ∃ L : Letter, l = letC 0 L ∧ L.bytes.length < b) :=
  (Opn.struct Try.underlying29 (by kernel_rfl : _ = 3) (.cons rfl (by kernel_rfl : _ = 1) (.int Try.underlying3) (.cons rfl (by kernel_rfl : _ = 1) (.int Try.underlying5) (.cons rfl (by kernel_rfl : _ = 1) opn_bytes .nil)))).mono fun l b h => by
    obtain ⟨_, _, rfl, ⟨_, _, u, rfl, _⟩, _, _, rfl, ⟨_, _, fl, rfl, _⟩, _, _, rfl, ⟨b', hb', p, rfl, hp⟩, rfl⟩ := h
    exact ⟨⟨u, fl, p⟩, rfl, Nat.lt_trans hp hb'⟩
theorem opn_box : Opn Try.prog 24 (fun l b => ∃ B : Box, l = boxC 0 B ∧ B.letters.length < b ∧ ∀ L, L ∈ B.letters → L.bytes.length < b) :=
  (Opn.struct Try.underlying24 (by kernel_rfl : _ = 4) (.cons rfl (by kernel_rfl : _ = 1) (.str Try.underlying9) (.cons rfl (by kernel_rfl : _ = 1) (.int Try.underlying3) (.cons rfl (by kernel_rfl : _ = 1) (.int Try.underlying3) (.cons rfl (by kernel_rfl : _ = 1) (.slice Try.underlying22 (by kernel_rfl : _ = 3) (by decide) opn_letter) .nil))))).mono fun l b h => by
    obtain ⟨_, _, rfl, ⟨_, _, nm, rfl, _⟩, _, _, rfl, ⟨_, _, va, rfl, _⟩, _, _, rfl, ⟨_, _, ne, rfl, _⟩, _, _, rfl, ⟨b', hb', rows, rfl, hlen, hrows⟩, rfl⟩ := h
    obtain ⟨Ls, rfl, hLs⟩ := rows_map (letC 0) (Q := fun L => L.bytes.length < b) (rows := rows) (fun r hr => by
      obtain ⟨b2, hb2, L, rfl, hL⟩ := hrows r hr
      exact ⟨L, rfl, by omega⟩)
    refine ⟨⟨nm, va, ne, Ls⟩, rfl, ?_, hLs⟩
    simp only [List.length_map] at hlen
    show Ls.length < b
    omega
theorem opn_turn : Opn Try.prog 27 (fun l b => ∃ u how fl : Int, l = [.int .i64 u, .int .i64 how, .int .u8 fl]) :=
  (Opn.struct Try.underlying27 (by kernel_rfl : _ = 3) (.cons rfl (by kernel_rfl : _ = 1) (.int Try.underlying3) (.cons rfl (by kernel_rfl : _ = 1) (.int Try.underlying3) (.cons rfl (by kernel_rfl : _ = 1) (.int Try.underlying5) .nil)))).mono fun l b h => by
    obtain ⟨_, _, rfl, ⟨_, _, u, rfl, _⟩, _, _, rfl, ⟨_, _, fl, rfl, _⟩, _, _, rfl, ⟨b', hb', p, rfl, hp⟩, rfl⟩ := h
    exact ⟨_, _, _, rfl⟩
def bulk (H : Type) : Bulk H where
  f := Rows.uptoBulk
  all := Rows.uptoBulkAll
  str := fun s => by simp only [Rows.uptoBulk]
  one := fun d => by
    cases d with
    | lit l => cases l <;> simp [Rows.uptoBulk]
    | _ => simp [Rows.uptoBulk]
  agg := fun l => by simp only [Rows.uptoBulk]
  sl := fun a b => by simp only [Rows.uptoBulk]
  nil := by simp only [Rows.uptoBulkAll]
  cons := fun d r => by simp only [Rows.uptoBulkAll]
theorem own : ownKnob Try.prog.godebug = none := by kernel_rfl
theorem contract (H : Type) (enc : TypeId × Value → H) (W : World) (base : Nat) (args : Array Value) (ds gs : List (DataW H)) (before : List MemPlace)
    (hval : ∀ (j : Nat) t v, Try.f3.params[j]? = some t → args[j]? = some v → Value.okWide Try.prog W .any base t v)
    (hW : DataW.Whole enc Try.prog Try.f3.params.toList Rows.boxOwnSpec.vars false W args.toList ds gs before) (hk : Rows.uptoSmall H (ds ++ gs) = true) :
    Calls Try.prog 3 args W fun e W' => ∃ v, e = .returned v ∧ Rows.boxOwnSpec.post enc Try.prog Try.f3 false true false false W args v W' := by
  have hW' := hW
  obtain ⟨p, q, hA0, hV, rfl, hfz, hnd⟩ := hW
  have hA : DataW.TrodAll enc Try.prog W 0 (fun _ => true) true Try.f3.params.toList args.toList ds p := hA0
  rw [Try.params3] at hA hval
  obtain ⟨v0, vs0, d0, ds0, p0, q0, hargs, rfl, rfl, h0, r0⟩ := trodAll_cons hA
  obtain ⟨v1, vs1, d1, ds1, p1, q1, rfl, rfl, rfl, h1, r1⟩ := trodAll_cons r0
  obtain ⟨v2, vs2, d2, ds2, p2, q2, rfl, rfl, rfl, h2, r2⟩ := trodAll_cons r1
  obtain ⟨rfl, rfl, rfl⟩ := trodAll_nil r2
  obtain rfl : args = #[v0, v1, v2] := by cases args; simp_all
  obtain ⟨rfl, rfl⟩ := trodVars_none hV
  have hb : (bulk H).all [d0, d1, d2] ≤ 1048576 := by
    have h := of_decide_eq_true hk
    show Rows.uptoBulkAll _ ≤ _
    simpa using h
  obtain ⟨l0, ⟨B, rfl, hB1, hB2⟩, hr0⟩ := opn_arg (k := bulk H) opn_box h0
  obtain ⟨l1, ⟨p, rfl, hp⟩, hr1⟩ := opn_arg (k := bulk H) opn_bytes h1
  obtain ⟨l2, ⟨u, how, fl, rfl⟩, hr2⟩ := opn_arg (k := bulk H) opn_turn h2
  have hb0 : (bulk H).f d0 ≤ 1048576 := Nat.le_trans ((bulk H).mem (by simp)) hb
  have hb1 : (bulk H).f d1 ≤ 1048576 := Nat.le_trans ((bulk H).mem (by simp)) hb
  have hfit : fitB B := ⟨by omega, fun L hL => by have := hB2 L hL; show L.bytes.length ≤ _; omega⟩
  refine (law_calls (boxOwn_calls B p u how fl hfit (by omega) (by omega) live_calls) (.cons (arg_agg Try.underlying24 (hval 0 24 v0 rfl rfl) hr0) (.cons (arg_one Try.underlying25 rfl (hval 1 25 v1 rfl rfl) hr1) (.cons (arg_agg Try.underlying27 (hval 2 27 v2 rfl rfl) hr2) (.nil _))))).mono fun e W' ⟨he, hg⟩ => ?_
  subst he
  exact ⟨_, rfl, law_post (tb := 4) (by kernel_rfl) (by kernel_rfl) rfl hW' rfl rfl Try.underlying4 hg⟩
set_option maxRecDepth 100000 in
theorem lifted (os : Os) (started : os.Started) (H : Type) (enc : TypeId × Value → H) (F : Stop.Interp) :
    ReturnsInHanded {} Try.checked os 3 .any ((Rows.OpenSpec.upto Rows.boxOwnSpec).pre6 enc Try.prog Try.f3 Rows.boxOwnUptoRow.domain false) (((Rows.OpenSpec.upto Rows.boxOwnSpec).at F).post enc Try.prog Try.f3 false true false false) := by
  refine returnsInHanded_of_cond (C := Try.checked) (s := Rows.OpenSpec.upto Rows.boxOwnSpec) (k := Rows.uptoSmall) rfl own started (by kernel_rfl) Try.func3
    (OpenSpec.witness (enc := enc) (C := Try.checked) (s := Rows.OpenSpec.upto Rows.boxOwnSpec) (k := Rows.uptoSmall) rfl false ⟨#[], #[.agg #[.string ⟨#[]⟩, .int .i64 0, .int .i64 0, .slice none 0 0], .slice none 0 0, .agg #[.int .i64 0, .int .i64 0, .int .u8 0]], []⟩ 8 (by kernel_rfl) (by kernel_rfl) (by kernel_rfl)
      (x := ([.agg [.lit (.string []), .lit (.int .i64 0), .lit (.int .i64 0), .nil], .nil, .agg [.lit (.int .i64 0), .lit (.int .i64 0), .lit (.int .u8 0)]], [], [])) (by kernel_rfl) rfl (by kernel_rfl)) ?_
  intro W base args ds gs before hval hW _ hk _
  exact contract H enc W base args ds gs before hval hW hk

theorem over : Rows.boxOwnUptoRow.holds Try.pinned (Rows.OpenSpec.upto Rows.boxOwnSpec) :=
  OpenClaim.holds_of_cond 3 Try.f3 rfl rfl rfl rfl rfl rfl rfl ⟨rfl, rfl, rfl, rfl, rfl⟩ rfl rfl rfl rfl rfl (by kernel_rfl) Try.func3 (by kernel_rfl)
    (of_decide_eq_true (by kernel_rfl)) (by unfold Func.isWrapper; first | (rw [if_pos (by decide +kernel)]; kernel_rfl) | (rw [if_neg (by decide +kernel)]; exact ⟨rfl, rfl⟩))
    (fun os started H enc _ F => lifted os started H enc F)

end Go.Proofs.BX
namespace Go.Proofs.Ytflopnlnogjaoaa
theorem boxOwn_upto_holds : Rows.BoxOwnUptoSaid := BX.over
end Go.Proofs.Ytflopnlnogjaoaa
