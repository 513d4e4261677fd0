/- AmIndex: where a text stands first in another, by the library's contract, which reads a variable of the library's own; laws at a heap that holds that variable. -/
import Derived.Test.YtjcchmmmbegamaaDoorAmAll3
import Derived.Test.YtjcchmmmbegamaaDoorAmAll2
import Derived.Shelf.Strings.Search2
namespace Am
set_option linter.unusedVariables false
set_option linter.unusedSimpArgs false
open Go (IntKind BinOp UnOp Value Program TypeId TypeDesc Operand Oper Code Tmp World Addr Obj Act Fence DataW MemPlace)
open Go.Proofs

/-- The heap that holds one variable of the kind int. -/
def hG (G : Nat) (m : Int) : H := h0.set G (.rows 1 [[.i .i64 m]] true)
/-! ### A law at such a heap -/
mutual
theorem lay_get : ∀ (x : Dt) (h : H), h.nx ≤ (x.lay h).2.nx ∧ ∀ b, b < h.nx → (x.lay h).2.get b = h.get b
  | .b x, h => ⟨Nat.le_refl _, fun _ _ => rfl⟩
  | .i k n, h => ⟨Nat.le_refl _, fun _ _ => rfl⟩
  | .s l, h => ⟨Nat.le_refl _, fun _ _ => rfl⟩
  | .st xs, h => layL_get xs h
  | .nl, h => ⟨Nat.le_refl _, fun _ _ => rfl⟩
  | .sl k xs, h => by
    obtain ⟨h1, h2⟩ := layR_get xs h
    simp only [Dt.lay]
    split
    · exact ⟨Nat.le_succ_of_le h1, fun b hb => h2 b hb⟩
    · exact ⟨Nat.le_succ_of_le h1, fun b hb => by rw [H.get_push, if_neg (by omega)]; exact h2 b hb⟩
  | .bs l, h => by
    simp only [Dt.lay]
    split
    · exact ⟨Nat.le_succ _, fun b hb => rfl⟩
    · exact ⟨Nat.le_succ _, fun b hb => by rw [H.get_push, if_neg (by omega)]⟩
theorem layL_get : ∀ (xs : List Dt) (h : H), h.nx ≤ (Dt.layL xs h).2.nx ∧ ∀ b, b < h.nx → (Dt.layL xs h).2.get b = h.get b
  | [], h => ⟨Nat.le_refl _, fun _ _ => rfl⟩
  | x :: xs, h => by
    obtain ⟨h1, h2⟩ := lay_get x h
    obtain ⟨h3, h4⟩ := layL_get xs (x.lay h).2
    simp only [Dt.layL]
    exact ⟨Nat.le_trans h1 h3, fun b hb => (h4 b (by omega)).trans (h2 b hb)⟩
theorem layR_get : ∀ (xs : List Dt) (h : H), h.nx ≤ (Dt.layR xs h).2.nx ∧ ∀ b, b < h.nx → (Dt.layR xs h).2.get b = h.get b
  | [], h => ⟨Nat.le_refl _, fun _ _ => rfl⟩
  | x :: xs, h => by
    obtain ⟨h1, h2⟩ := lay_get x h
    obtain ⟨h3, h4⟩ := layR_get xs (x.lay h).2
    simp only [Dt.layR]
    exact ⟨Nat.le_trans h1 h3, fun b hb => (h4 b (by omega)).trans (h2 b hb)⟩
end
variable {P : Program}
end Am
