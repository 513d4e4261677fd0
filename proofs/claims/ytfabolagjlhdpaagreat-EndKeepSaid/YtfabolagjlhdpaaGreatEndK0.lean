/- The laws of layer 19 at their seat: their program; the closed calls. -/
import Derived.Test.YtfabolagjlhdpaaGreatLitEnd
import Derived.Test.YtfabolagjlhdpaaGreatAmLawK
import Derived.Test.YtfabolagjlhdpaaGreatAmMake
import Derived.Test.YtfabolagjlhdpaaGreatEnd4
namespace Go.Proofs.YtfabolagjlhdpaaGreat.EndK
open Am
set_option linter.all false
set_option maxRecDepth 100000
noncomputable def prA : Prog := (Go.Proofs.YtfabolagjlhdpaaGreat.LitEnd.all).add 184 xIndexByteK
theorem okA : ProgOk Tryz.prog prA := by
  unfold prA
  rw [xIndexByteK_eq]
  exact Go.Proofs.YtfabolagjlhdpaaGreat.LitEnd.allOk.addFor (indexByte_ok Tryz.func184 (by kernel_rfl) (by kernel_rfl) (by kernel_rfl) (by kernel_rfl))
theorem begunK : yesK prA 3000 6 = true := by kernel_rfl
theorem begunX : ExtFor Tryz.prog 6 (xConst (.b true)) := closed_of_yes okA rfl (yesK_yes begunK)
noncomputable def prB : Prog := prA.add 6 (xConst (.b true))
theorem okB : ProgOk Tryz.prog prB := okA.addFor begunX
noncomputable def vList0 : V := .agg [.i .i64 4096, .i .i64 10, .i .i64 65535, .i .i64 16384, .i .i64 1000]
end Go.Proofs.YtfabolagjlhdpaaGreat.EndK
