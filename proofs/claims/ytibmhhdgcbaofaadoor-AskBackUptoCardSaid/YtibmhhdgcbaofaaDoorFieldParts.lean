/- The law FieldParts, over what the functions of the layer 'field' answer. -/
import Derived.Test.YtibmhhdgcbaofaaDoorField4
namespace Am
set_option linter.unusedVariables false
set_option linter.unusedSimpArgs false
set_option maxRecDepth 20000
set_option maxHeartbeats 8000000
variable {pr : Prog}

theorem containsAny_ok {k : Nat} (hw : pr.ext k = some gIA) : OkF pr (c_strings_ContainsAny k) gCA := by
  intro as h v h' hg
  unfold gCA at hg
  split at hg
  · rename_i l cs
    split at hg
    · rename_i hcs
      obtain ⟨rfl, hmax⟩ := hcs
      cases hg
      have hc := @wpCall_ext pr k _ hw
      have hx : gIA [.s l, .s [0, 10, 13]] h = some (.i .i64 (anyAns l), h) := by simp only [gIA]; rw [if_pos ⟨trivial, hmax⟩]
      unfold wpF c_strings_ContainsAny
      refine ⟨by simp, ?_⟩
      simp only [↓STEP, go_sem, ↓reduceIte, Nat.reduceEqDiff, Nat.reduceLeDiff, Nat.reduceLT, Nat.reduceAdd, Nat.reduceSub, Nat.reduceMul, Int.reduceLT, Int.reduceLE, Int.reduceEq, Int.reduceAdd, Int.reduceSub, Int.reduceMul, Int.reduceNeg, Int.reduceToNat, reduceCtorEq, hc, hx]
      exact Abs.eq (by rw [anyAns_nonneg]) rfl
    · cases hg
  · cases hg

end Am
