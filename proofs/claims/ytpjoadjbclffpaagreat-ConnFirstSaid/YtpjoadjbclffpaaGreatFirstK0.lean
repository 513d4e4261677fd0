/- The law ConnFirst at its seat: its program. -/
import Derived.Test.YtpjoadjbclffpaaGreatLitFirst
import Derived.Test.YtpjoadjbclffpaaGreatAmLawK
import Derived.Test.YtpjoadjbclffpaaGreatAmGcB
import Derived.Test.YtpjoadjbclffpaaGreatAmAll3
namespace Go.Proofs.YtpjoadjbclffpaaGreat.FirstK
open Am
set_option linter.all false
set_option maxRecDepth 100000
noncomputable def prA : Prog := (Go.Proofs.YtpjoadjbclffpaaGreat.LitFirst.all).add 212 xIndexByteK
theorem okA : ProgOk Tryz.prog prA := by
  unfold prA
  rw [xIndexByteK_eq]
  exact Go.Proofs.YtpjoadjbclffpaaGreat.LitFirst.allOk.addFor (indexByte_ok Tryz.func212 (by kernel_rfl) (by kernel_rfl) (by kernel_rfl) (by kernel_rfl))
theorem begunK : yesK prA 3000 17 = true := by kernel_rfl
theorem begunX : ExtFor Tryz.prog 17 (xConst (.b true)) := closed_of_yes okA rfl (yesK_yes begunK)
noncomputable def prB : Prog := prA.add 17 (xConst (.b true))
theorem okB : ProgOk Tryz.prog prB := okA.addFor begunX
noncomputable def vList0 : V := .agg [.i .i64 4096, .i .i64 10, .i .i64 65535, .i .i64 16384, .i .i64 1000]
noncomputable def isV (w v : V) (h : H) : Bool := match w, v with | .agg vs, .agg ws => relsB (fun a b => Nat.beq a b) vs ws | v, w => relB (fun a b => Nat.beq a b) v w
theorem listK : runK prB 3000 (.fn 11) [] h0 (isV vList0) = true := by kernel_rfl
end Go.Proofs.YtpjoadjbclffpaaGreat.FirstK
