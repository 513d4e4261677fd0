/- The law ConnFirst at its seat: the kernel's runs of Request, part 3. -/
import Derived.Test.YtpjoadjbclffpaaGreatFirstK
namespace Go.Proofs.YtpjoadjbclffpaaGreat.FirstK
open Am
set_option linter.all false
set_option maxRecDepth 100000
theorem q40 : reqOk 40 = true := by kernel_rfl
theorem q41 : reqOk 41 = true := by kernel_rfl
theorem q42 : reqOk 42 = true := by kernel_rfl
theorem q43 : reqOk 43 = true := by kernel_rfl
theorem q44 : reqOk 44 = true := by kernel_rfl
theorem q45 : reqOk 45 = true := by kernel_rfl
theorem q46 : reqOk 46 = true := by kernel_rfl
theorem q47 : reqOk 47 = true := by kernel_rfl
theorem q48 : reqOk 48 = true := by kernel_rfl
theorem q49 : reqOk 49 = true := by kernel_rfl
theorem q50 : reqOk 50 = true := by kernel_rfl
theorem q51 : reqOk 51 = true := by kernel_rfl
theorem q52 : reqOk 52 = true := by kernel_rfl
theorem q53 : reqOk 53 = true := by kernel_rfl
theorem q54 : reqOk 54 = true := by kernel_rfl
theorem q55 : reqOk 55 = true := by kernel_rfl
theorem q56 : reqOk 56 = true := by kernel_rfl
theorem q57 : reqOk 57 = true := by kernel_rfl
theorem q58 : reqOk 58 = true := by kernel_rfl
theorem q59 : reqOk 59 = true := by kernel_rfl
end Go.Proofs.YtpjoadjbclffpaaGreat.FirstK
