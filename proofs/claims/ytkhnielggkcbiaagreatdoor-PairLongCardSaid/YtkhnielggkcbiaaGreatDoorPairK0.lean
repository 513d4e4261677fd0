/- The law PairLong at its seat: its program; the closed calls. -/
import Derived.Test.YtkhnielggkcbiaaGreatDoorLitPair
import Derived.Test.YtkhnielggkcbiaaGreatDoorAmAll2
import Derived.Test.YtkhnielggkcbiaaGreatDoorAmLit
import Derived.Test.YtkhnielggkcbiaaGreatDoorAmMake
import Derived.Test.YtkhnielggkcbiaaGreatDoorAmShift
import Derived.Test.YtkhnielggkcbiaaGreatDoorEnd15
namespace Go.Proofs.YtkhnielggkcbiaaGreatDoor.PairK
open Am
set_option linter.all false
set_option maxRecDepth 100000
noncomputable def prA : Prog := (Go.Proofs.YtkhnielggkcbiaaGreatDoor.LitPair.all).add 306 xIndexByteK
theorem okA : ProgOk Tryz.prog prA := by
  unfold prA
  rw [xIndexByteK_eq]
  exact Go.Proofs.YtkhnielggkcbiaaGreatDoor.LitPair.allOk.addFor (indexByte_ok Tryz.func306 (by kernel_rfl) (by kernel_rfl) (by kernel_rfl) (by kernel_rfl))
theorem begunK : yesK prA 3000 7 = true := by kernel_rfl
theorem begunX : ExtFor Tryz.prog 7 (xConst (.b true)) := closed_of_yes okA rfl (yesK_yes begunK)
noncomputable def prB : Prog := prA.add 7 (xConst (.b true))
theorem okB : ProgOk Tryz.prog prB := okA.addFor begunX
end Go.Proofs.YtkhnielggkcbiaaGreatDoor.PairK
