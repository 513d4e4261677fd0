/- The law ConnFirst at its seat: the kernel's runs of Request, part 5. -/
import Derived.Test.YtpjoadjbclffpaaGreatFirstK
namespace Go.Proofs.YtpjoadjbclffpaaGreat.FirstK
open Am
set_option linter.all false
set_option maxRecDepth 100000
theorem q80 : reqOk 80 = true := by kernel_rfl
theorem q81 : reqOk 81 = true := by kernel_rfl
theorem q82 : reqOk 82 = true := by kernel_rfl
theorem q83 : reqOk 83 = true := by kernel_rfl
theorem q84 : reqOk 84 = true := by kernel_rfl
theorem q85 : reqOk 85 = true := by kernel_rfl
theorem q86 : reqOk 86 = true := by kernel_rfl
theorem q87 : reqOk 87 = true := by kernel_rfl
theorem q88 : reqOk 88 = true := by kernel_rfl
theorem q89 : reqOk 89 = true := by kernel_rfl
theorem q90 : reqOk 90 = true := by kernel_rfl
theorem q91 : reqOk 91 = true := by kernel_rfl
theorem q92 : reqOk 92 = true := by kernel_rfl
theorem q93 : reqOk 93 = true := by kernel_rfl
theorem q94 : reqOk 94 = true := by kernel_rfl
theorem q95 : reqOk 95 = true := by kernel_rfl
theorem q96 : reqOk 96 = true := by kernel_rfl
theorem q97 : reqOk 97 = true := by kernel_rfl
theorem q98 : reqOk 98 = true := by kernel_rfl
theorem q99 : reqOk 99 = true := by kernel_rfl
theorem q100 : req100 = true := by kernel_rfl
theorem q101 : req101 = true := by kernel_rfl
theorem resetT : resetOk = true := by kernel_rfl
end Go.Proofs.YtpjoadjbclffpaaGreat.FirstK
