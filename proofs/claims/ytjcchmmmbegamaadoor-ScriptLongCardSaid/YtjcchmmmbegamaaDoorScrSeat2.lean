/- The start of the laws of this seat: a closed run. -/
import Derived.Test.YtjcchmmmbegamaaDoorScrSeat
namespace Go.Proofs.YtjcchmmmbegamaaDoor.ScrSeat2
open Am Go.Proofs ScrSeat
set_option maxRecDepth 100000
theorem begunX : ExtFor Tryd.prog 7 (xConst (.b true)) := closed_of_yes ok28 (by kernel_rfl) (n := 3000) (by kernel_rfl)
noncomputable def pr29 : Prog := pr28.add 7 (xConst (.b true))
theorem ok29 : ProgOk Tryd.prog pr29 := ok28.addFor begunX
end Go.Proofs.YtjcchmmmbegamaaDoor.ScrSeat2
