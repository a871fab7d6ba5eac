/- A string's letters by their places. -/
import Derived.Test.YtflopnlnogjaoaaV17
set_option linter.unusedVariables false
set_option linter.unusedSimpArgs false
namespace Go.V
open Go Go.RowKit

variable {P : Program} {n : Nat} {f : F} {m ms mr : M} {Q : AQ} {ops : Array Oper} {rest : List Oper} {ty : TypeId} {ev : Operand → AV}

theorem Bs_get? (s : List UInt8) (i : Nat) : (Bs s)[i]? = s[i]? := by
  by_cases h : i < s.length
  · have h' : i < (Bs s).size := by rw [Bs_size]; exact h
    rw [getElem?_pos (Bs s) i h', getElem?_pos s i h]
    rfl
  · have h' : ¬ i < (Bs s).size := by rw [Bs_size]; exact h
    rw [getElem?_neg (Bs s) i h', getElem?_neg s i h]
theorem op_ixs {t : TypeId} {x y : Operand} {s : List UInt8} {k : IntKind} {i : Int} {b : UInt8} [ht : StrT P t] (hx : ev x = .str s) (hy : ev y = .int k i) (h0 : 0 ≤ i) (hi : s[i.toNat]? = some b) : AOp P m (.index t x y) ty ev (.int .u8 b.toNat) :=
  .of fun E ρ o ho _ hr => by
    have k1 := str_inv (hx ▸ hr x (by simp [Op.operands]))
    have k2 := int_inv (hy ▸ hr y (by simp [Op.operands]))
    exact ⟨_, .int _ _, fun w => by simp [execOp, ho, k1, k2, Instr.index, asIntOf, run_underlying ht.out, h0, Bs_get?, hi]⟩
end Go.V
