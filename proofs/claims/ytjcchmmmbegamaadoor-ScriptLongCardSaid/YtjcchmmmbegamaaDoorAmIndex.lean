/- AmIndex: where a text stands first in another, by the library's contract, which reads a variable of the library's own; laws at a heap that holds that variable. -/
import Derived.Test.YtjcchmmmbegamaaDoorAmAll3
import Derived.Test.YtjcchmmmbegamaaDoorAmAll2
import Derived.Shelf.Strings.Search2
namespace Am
set_option linter.unusedVariables false
set_option linter.unusedSimpArgs false
open Go (IntKind BinOp UnOp Value Program TypeId TypeDesc Operand Oper Code Tmp World Addr Obj Act Fence DataW MemPlace)
open Go.Proofs

/-- The heap that holds one variable of the kind int. -/
def hG (G : Nat) (m : Int) : H := h0.set G (.rows 1 [[.i .i64 m]] true)
/-! ### A law at such a heap -/
variable {P : Program}
end Am
