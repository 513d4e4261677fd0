/- The laws of layer 19 at their seat: what is done as a deadline is due, run by the kernel with numbers that are free. -/
import Derived.Test.YtfabolagjlhdpaaGreatEndK1
import Derived.Test.YtfabolagjlhdpaaGreatEnd9
namespace Go.Proofs.YtfabolagjlhdpaaGreat.EndK
open Am
set_option linter.all false
set_option maxRecDepth 100000
/-- The heaps below an end: no ticks, none, some. -/
def Base (b : H) : Prop := b = ⟨4096, .e⟩ ∨ b = ⟨4097, .e⟩ ∨ ∃ x, b = h0.push x
abbrev Kt := Option Blk → Option Blk → Option Blk → Option Blk → Nat → V → Bool
theorem base_lt (b : H) (hb : Base b) (i : Nat) (x : Blk) (hx : b.get i = some x) : i < b.nx := by
  rcases hb with rfl | rfl | ⟨z, rfl⟩
  · cases hx
  · cases hx
  · rw [H.get_push] at hx
    by_cases h1 : i = h0.nx
    · subst h1; show 4096 < 4096 + 1; omega
    · rw [if_neg h1] at hx; cases hx
end Go.Proofs.YtfabolagjlhdpaaGreat.EndK
