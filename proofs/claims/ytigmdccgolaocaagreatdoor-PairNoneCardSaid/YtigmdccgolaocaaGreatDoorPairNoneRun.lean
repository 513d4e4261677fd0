/- The law PairNone, run by the kernel on the abstract machine: it answers true; no condition. -/
import Derived.Test.YtigmdccgolaocaaGreatDoorLitNone
namespace Go.Proofs.YtigmdccgolaocaaGreatDoor.PairNoneRun
open Am
set_option maxRecDepth 100000
noncomputable def pr : Prog := (Go.Proofs.YtigmdccgolaocaaGreatDoor.LitNone.all).add 315 xIndexByteK
theorem ok : ProgOk Tryz.prog pr := by
  unfold pr
  rw [xIndexByteK_eq]
  exact Go.Proofs.YtigmdccgolaocaaGreatDoor.LitNone.allOk.addFor (indexByte_ok Tryz.func315 (by kernel_rfl) (by kernel_rfl) (by kernel_rfl) (by kernel_rfl))
theorem ran : yesK pr 3000 4 = true := by kernel_rfl
end Go.Proofs.YtigmdccgolaocaaGreatDoor.PairNoneRun
