/- What the functions of this seat answer: the start of it, and the answer of an upgrade. -/
import Derived.Test.YtibmhhdgcbaofaaDoorRows
import Derived.Test.YtibmhhdgcbaofaaDoorAmAll2
import Derived.Test.YtibmhhdgcbaofaaDoorAmAll3
import Derived.Test.YtibmhhdgcbaofaaDoorAmJoin
import Derived.Test.YtibmhhdgcbaofaaDoorAmIndex
import Derived.Test.YtibmhhdgcbaofaaDoorAskShelf
import Derived.Test.YtibmhhdgcbaofaaDoorAsk1
import Derived.ProofKit
import Derived.Shelf.Vars
namespace Go.Proofs.YtibmhhdgcbaofaaDoor.AskSeat
open Am
set_option maxRecDepth 100000
noncomputable def pr00 : Prog := (progOf Tryd.prog).add 89 xIndexByte
theorem ok00 : ProgOk Tryd.prog pr00 := (progOf_ok _).addFor (indexByte_ok Tryd.func89 (by kernel_rfl) (by kernel_rfl) (by kernel_rfl) (by kernel_rfl))
noncomputable def pr01 : Prog := pr00.add 26 xJoin
theorem ok01 : ProgOk Tryd.prog pr01 := ok00.addFor (xJoin_ok Tryd.lays156 Tryd.Builder_Extra_156)
theorem glob : glOf Tryd.prog 0 = some ⟨0, 0, 1, 1⟩ := by kernel_rfl
noncomputable def pr0 : Prog := pr01.add 88 (xIndexS 0)
theorem ok0 : ProgOk Tryd.prog pr0 := ok01.addFor (xIndexS_ok Tryd.lays219 glob rfl)
theorem begunX : ExtFor Tryd.prog 8 (xConstG 0 (.b true)) := ExtFor.closedG ok0 glob (by kernel_rfl) (n := 3000) (fun m => by kernel_rfl)
noncomputable def pr1 : Prog := pr0.add 8 (xConstG 0 (.b true))
theorem ok1 : ProgOk Tryd.prog pr1 := ok0.addFor begunX
noncomputable def pr2 : Prog := pr1.add 14 gYes
theorem ok2 : ProgOk Tryd.prog pr2 := ok1.add (af := c_upgrade_ReadYes) (by kernel_rfl) readYes_ok
noncomputable def pr3 : Prog := pr2.add 15 gYes
theorem ok3 : ProgOk Tryd.prog pr3 := ok2.add (af := c_isthmusref18_ReadYes) (by kernel_rfl) readYes18_ok

/-- The library's variable holds some number when the call begins. -/
theorem shaped (W : World) (h : W.ShapedOpen Tryd.prog) : ∃ m, W.cell? ⟨0, 0, none⟩ = some (.int .i64 m) :=
  cell_of_shapedOpen_int h (t := 3) (zero := #[.int .i64 0]) (of_decide_eq_true (by kernel_rfl)) (by kernel_rfl) rfl (by kernel_rfl) (by kernel_rfl) Tryd.underlying3

end Go.Proofs.YtibmhhdgcbaofaaDoor.AskSeat
