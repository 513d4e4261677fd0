/- The law ConnFirst at its seat: the kernel's runs of Request, part 1. -/
import Derived.Test.YtpjoadjbclffpaaGreatFirstK
namespace Go.Proofs.YtpjoadjbclffpaaGreat.FirstK
open Am
set_option linter.all false
set_option maxRecDepth 100000
theorem q0 : reqOk 0 = true := by kernel_rfl
theorem q1 : reqOk 1 = true := by kernel_rfl
theorem q2 : reqOk 2 = true := by kernel_rfl
theorem q3 : reqOk 3 = true := by kernel_rfl
theorem q4 : reqOk 4 = true := by kernel_rfl
theorem q5 : reqOk 5 = true := by kernel_rfl
theorem q6 : reqOk 6 = true := by kernel_rfl
theorem q7 : reqOk 7 = true := by kernel_rfl
theorem q8 : reqOk 8 = true := by kernel_rfl
theorem q9 : reqOk 9 = true := by kernel_rfl
theorem q10 : reqOk 10 = true := by kernel_rfl
theorem q11 : reqOk 11 = true := by kernel_rfl
theorem q12 : reqOk 12 = true := by kernel_rfl
theorem q13 : reqOk 13 = true := by kernel_rfl
theorem q14 : reqOk 14 = true := by kernel_rfl
theorem q15 : reqOk 15 = true := by kernel_rfl
theorem q16 : reqOk 16 = true := by kernel_rfl
theorem q17 : reqOk 17 = true := by kernel_rfl
theorem q18 : reqOk 18 = true := by kernel_rfl
theorem q19 : reqOk 19 = true := by kernel_rfl
end Go.Proofs.YtpjoadjbclffpaaGreat.FirstK
