/- The law ConnFirst at its seat: the kernel's runs of Request, part 4. -/
import Derived.Test.YtpjoadjbclffpaaGreatFirstK
namespace Go.Proofs.YtpjoadjbclffpaaGreat.FirstK
open Am
set_option linter.all false
set_option maxRecDepth 100000
theorem q60 : reqOk 60 = true := by kernel_rfl
theorem q61 : reqOk 61 = true := by kernel_rfl
theorem q62 : reqOk 62 = true := by kernel_rfl
theorem q63 : reqOk 63 = true := by kernel_rfl
theorem q64 : reqOk 64 = true := by kernel_rfl
theorem q65 : reqOk 65 = true := by kernel_rfl
theorem q66 : reqOk 66 = true := by kernel_rfl
theorem q67 : reqOk 67 = true := by kernel_rfl
theorem q68 : reqOk 68 = true := by kernel_rfl
theorem q69 : reqOk 69 = true := by kernel_rfl
theorem q70 : reqOk 70 = true := by kernel_rfl
theorem q71 : reqOk 71 = true := by kernel_rfl
theorem q72 : reqOk 72 = true := by kernel_rfl
theorem q73 : reqOk 73 = true := by kernel_rfl
theorem q74 : reqOk 74 = true := by kernel_rfl
theorem q75 : reqOk 75 = true := by kernel_rfl
theorem q76 : reqOk 76 = true := by kernel_rfl
theorem q77 : reqOk 77 = true := by kernel_rfl
theorem q78 : reqOk 78 = true := by kernel_rfl
theorem q79 : reqOk 79 = true := by kernel_rfl
end Go.Proofs.YtpjoadjbclffpaaGreat.FirstK
