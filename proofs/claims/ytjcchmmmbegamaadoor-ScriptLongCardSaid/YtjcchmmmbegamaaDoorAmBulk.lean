/- AmBulk: data laid, and how great they are. -/
import Derived.Test.YtjcchmmmbegamaaDoorAmIndex
namespace Am
set_option linter.unusedVariables false
set_option linter.unusedSimpArgs false
open Go (IntKind BinOp UnOp Value Program TypeId TypeDesc Operand Oper Code Tmp World Addr Obj Act Fence DataW MemPlace Lit)
/-- How great a reading is: what is asked of such a count. -/
structure Bulk (H : Type) where
  B : DataW H → Nat
  BA : List (DataW H) → Nat
  one : ∀ d, 1 ≤ B d
  str : ∀ bs, bs.length + 1 ≤ B (.lit (.string bs))
  slice : ∀ es sp, BA es + 1 ≤ B (.slice es sp)
  agg : ∀ ps, BA ps + 1 ≤ B (.agg ps)
  cons : ∀ d r, B d + BA r ≤ BA (d :: r)
theorem Bulk.count {H : Type} (K : Bulk H) : ∀ ds : List (DataW H), ds.length ≤ K.BA ds
  | [] => Nat.zero_le _
  | d :: r => by
    have h1 := K.one d
    have h2 := K.cons d r
    have h3 := K.count r
    simp only [List.length_cons]; omega
variable {P : Program} {C : Cx} {B : Nat} {e : Emb} {h : H} {w : World}
end Am
