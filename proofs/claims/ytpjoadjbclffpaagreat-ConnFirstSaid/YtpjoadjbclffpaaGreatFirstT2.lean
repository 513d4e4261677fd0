/- The law ConnFirst at its seat: the kernel's runs of Request, part 2. -/
import Derived.Test.YtpjoadjbclffpaaGreatFirstK
namespace Go.Proofs.YtpjoadjbclffpaaGreat.FirstK
open Am
set_option linter.all false
set_option maxRecDepth 100000
theorem q20 : reqOk 20 = true := by kernel_rfl
theorem q21 : reqOk 21 = true := by kernel_rfl
theorem q22 : reqOk 22 = true := by kernel_rfl
theorem q23 : reqOk 23 = true := by kernel_rfl
theorem q24 : reqOk 24 = true := by kernel_rfl
theorem q25 : reqOk 25 = true := by kernel_rfl
theorem q26 : reqOk 26 = true := by kernel_rfl
theorem q27 : reqOk 27 = true := by kernel_rfl
theorem q28 : reqOk 28 = true := by kernel_rfl
theorem q29 : reqOk 29 = true := by kernel_rfl
theorem q30 : reqOk 30 = true := by kernel_rfl
theorem q31 : reqOk 31 = true := by kernel_rfl
theorem q32 : reqOk 32 = true := by kernel_rfl
theorem q33 : reqOk 33 = true := by kernel_rfl
theorem q34 : reqOk 34 = true := by kernel_rfl
theorem q35 : reqOk 35 = true := by kernel_rfl
theorem q36 : reqOk 36 = true := by kernel_rfl
theorem q37 : reqOk 37 = true := by kernel_rfl
theorem q38 : reqOk 38 = true := by kernel_rfl
theorem q39 : reqOk 39 = true := by kernel_rfl
end Go.Proofs.YtpjoadjbclffpaaGreat.FirstK
