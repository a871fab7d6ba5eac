/- Rows that are all of one shape. -/
import Derived.Test.YtflopnlnogjaoaaV19
namespace Go.V
open Go Go.RowKit
theorem rows_map {α : Type} (g : α → List AV) {Q : α → Prop} : ∀ {rows : List (List AV)}, (∀ r, r ∈ rows → ∃ x, r = g x ∧ Q x) → ∃ xs : List α, rows = xs.map g ∧ ∀ x, x ∈ xs → Q x
  | [], _ => ⟨[], rfl, fun x hx => by cases hx⟩
  | r :: rows, h => by
    obtain ⟨x, rfl, hx⟩ := h r (by simp)
    obtain ⟨xs, rfl, hxs⟩ := rows_map g (rows := rows) (fun r hr => h r (by simp [hr]))
    exact ⟨x :: xs, rfl, fun y hy => by rcases List.mem_cons.1 hy with rfl | hy; exact hx; exact hxs y hy⟩
theorem u8_byte {n : Int} (h : (Lit.int .u8 n).wf = true) : ∃ b : UInt8, AV.int .u8 n = byteAV b := by
  have hx : 0 ≤ n ∧ n ≤ 255 := by simpa [Lit.wf, IntKind.min, IntKind.max, IntKind.signed, IntKind.bits] using h
  refine ⟨UInt8.ofNat n.toNat, ?_⟩
  unfold byteAV
  congr 1
  have : (UInt8.ofNat n.toNat).toNat = n.toNat := by simp; omega
  rw [this]; omega
theorem Opn.bytes {P : Program} {t e : TypeId} (ht : P.underlying t = some (.slice e)) (he : P.underlying e = some (.int .u8)) (hc : P.cellsOf e = 1) : Opn P t (fun l b => ∃ p : List UInt8, l = [.sl 0 1 (p.map fun b => [byteAV b])] ∧ p.length < b) :=
  (Opn.slice ht hc (by decide) (Opn.int he)).mono fun l b ⟨rows, h1, h2, h3⟩ => by
    obtain ⟨p, rfl, _⟩ := rows_map (fun b : UInt8 => [byteAV b]) (Q := fun _ => True) (rows := rows) (fun r hr => by
      obtain ⟨_, _, n, rfl, hw⟩ := h3 r hr
      obtain ⟨b, hb⟩ := u8_byte hw
      exact ⟨b, by rw [hb], trivial⟩)
    exact ⟨p, h1, by simpa using h2⟩
theorem i64_range {n : Int} (h : (Lit.int .i64 n).wf = true) : -9223372036854775808 ≤ n ∧ n ≤ 9223372036854775807 := by
  simpa [Lit.wf, IntKind.min, IntKind.max, IntKind.signed, IntKind.bits] using h
theorem u8_range {n : Int} (h : (Lit.int .u8 n).wf = true) : 0 ≤ n ∧ n ≤ 255 := by
  simpa [Lit.wf, IntKind.min, IntKind.max, IntKind.signed, IntKind.bits] using h
end Go.V
