/- Small laws of tries and heaps. -/
import Derived.Test.YtkhnielggkcbiaaGreatDoorAmAll2
namespace Am
set_option linter.all false
theorem put_put {α : Type} : ∀ (f : Nat) (t : Tr α) (i : Nat) (x y : Option α), Tr.put f (Tr.put f t i x) i y = Tr.put f t i y
  | 0, t, i, x, y => rfl
  | f + 1, t, i, x, y => by
    have e : ∀ (t : Tr α) (z : Option α), Tr.put (f + 1) t i z = if i = 0 then .n t.left z t.right else if i % 2 = 1 then .n (Tr.put f t.left (i / 2) z) t.mid t.right else .n t.left t.mid (Tr.put f t.right (i / 2 - 1) z) := fun _ _ => rfl
    rw [e, e, e]
    by_cases h0 : i = 0
    · rw [if_pos h0, if_pos h0, if_pos h0]; rfl
    · rw [if_neg h0, if_neg h0, if_neg h0]
      by_cases h1 : i % 2 = 1
      · rw [if_pos h1, if_pos h1, if_pos h1]
        show Tr.n (Tr.put f (Tr.put f t.left (i / 2) x) (i / 2) y) t.mid t.right = _
        rw [put_put]
      · rw [if_neg h1, if_neg h1, if_neg h1]
        show Tr.n t.left t.mid (Tr.put f (Tr.put f t.right (i / 2 - 1) x) (i / 2 - 1) y) = _
        rw [put_put]
theorem push_set {h : H} {x y : Blk} : (h.push x).set h.nx y = h.push y := by
  unfold H.push H.set Tr.set
  rw [put_put]
end Am
