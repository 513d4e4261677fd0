/- The law ScriptTexts at its seat. -/
import Derived.Test.YtjcchmmmbegamaaDoorScrSeat2
import Derived.Test.YtjcchmmmbegamaaDoorScrT
import Derived.Test.YtjcchmmmbegamaaDoorAmBulk
import Derived.Test.YtjcchmmmbegamaaDoorAmIndex
import Derived.Shelf.Vars
namespace Go.Proofs.YtjcchmmmbegamaaDoor.ScrSeat3
open Am Go.Proofs ScrSeat ScrSeat2
set_option maxRecDepth 100000
theorem glob : glOf Tryd.prog 0 = some ⟨0, 0, 1, 1⟩ := by kernel_rfl
/-- The library's variable holds some number when the call begins. -/
theorem shaped (W : World) (h : W.ShapedOpen Tryd.prog) : ∃ m, W.cell? ⟨0, 0, none⟩ = some (.int .i64 m) :=
  cell_of_shapedOpen_int h (t := 3) (zero := #[.int .i64 0]) (of_decide_eq_true (by kernel_rfl)) (by kernel_rfl) rfl (by kernel_rfl) (by kernel_rfl) Tryd.underlying3
end Go.Proofs.YtjcchmmmbegamaaDoor.ScrSeat3
