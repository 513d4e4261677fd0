/- The law EndNone, run by the kernel on the abstract machine: it answers true; no condition. -/
import Derived.Test.YtfabolagjlhdpaaGreatDoorLitNone
namespace Go.Proofs.YtfabolagjlhdpaaGreatDoor.EndNoneRun
open Am
set_option maxRecDepth 100000
noncomputable def pr : Prog := (Go.Proofs.YtfabolagjlhdpaaGreatDoor.LitNone.all).add 284 xIndexByteK
theorem ok : ProgOk Tryz.prog pr := by
  unfold pr
  rw [xIndexByteK_eq]
  exact Go.Proofs.YtfabolagjlhdpaaGreatDoor.LitNone.allOk.addFor (indexByte_ok Tryz.func284 (by kernel_rfl) (by kernel_rfl) (by kernel_rfl) (by kernel_rfl))
theorem ran : yesK pr 3000 3 = true := by kernel_rfl
end Go.Proofs.YtfabolagjlhdpaaGreatDoor.EndNoneRun
