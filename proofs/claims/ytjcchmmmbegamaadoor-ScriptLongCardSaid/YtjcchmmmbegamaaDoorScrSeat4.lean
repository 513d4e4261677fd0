/- The law ScriptWrite at its seat: numbers of any size by the library's table. -/
import Derived.Test.YtjcchmmmbegamaaDoorScrSeat3
import Derived.Test.YtjcchmmmbegamaaDoorScrH
namespace Go.Proofs.YtjcchmmmbegamaaDoor.ScrSeat4
open Am Go.Proofs ScrSeat ScrSeat2
set_option maxRecDepth 100000
theorem globT : glOf Tryd.prog 1 = some ⟨1, 0, 20, 1⟩ := by kernel_rfl
theorem nameT : Go.Program.globalNamed Tryd.prog "internal/strconv.uint64pow10" = some 1 := by kernel_rfl
noncomputable def pr30 : Prog := pr29.add 53 (xFmt (zU 1))
theorem ok30 : ProgOk Tryd.prog pr30 := ok29.addFor (fmtU_ok Tryd.lays173 Tryd.laysM173 rfl globT nameT)
noncomputable def pr31 : Prog := pr30.add 42 (gNumS (zU 1))
theorem ok31 : ProgOk Tryd.prog pr31 := ok30.add (af := (c_script_number 53)) (by kernel_rfl) (numberS_ok (by kernel_rfl))
noncomputable def pr32 : Prog := pr31.add 9 (gLineS (zU 1))
theorem ok32 : ProgOk Tryd.prog pr32 := ok31.add (af := (c_script_Line 24 25 26)) (by kernel_rfl) (lineP_ok (kf := 14) (kr := 41) (kn := 42) (kt := 17) (ke := 43) (km := 44) (zU_ok 1) (by kernel_rfl) (by kernel_rfl) (by kernel_rfl) (by kernel_rfl) (by kernel_rfl) (by kernel_rfl) (by kernel_rfl) (by kernel_rfl) (by kernel_rfl) (by kernel_rfl) (by kernel_rfl) (by kernel_rfl))
theorem lineXU : ExtFor Tryd.prog 9 (gLineS (zU 1)) := fun args h v h' hg B e w cargs F n hv s hF => ok32.ext 9 (gLineS (zU 1)) (by kernel_rfl) args h v h' hg B e w cargs F n hv s hF
noncomputable def pr33 : Prog := pr32.add 11 (gWr (zU 1))
theorem ok33 : ProgOk Tryd.prog pr33 := ok32.addFor (ScrW.write_ok (zU_ok 1) lineXU)
noncomputable def pr34 : Prog := pr33.add 28 gRole
theorem ok34 : ProgOk Tryd.prog pr34 := ok33.add (af := c_isthmusref23_Role) (by kernel_rfl) roleR_ok
noncomputable def pr35 : Prog := pr34.add 27 gEnd
theorem ok35 : ProgOk Tryd.prog pr35 := ok34.add (af := c_isthmusref23_End) (by kernel_rfl) endR_ok
noncomputable def pr36 : Prog := pr35.add 29 gDigR
theorem ok36 : ProgOk Tryd.prog pr36 := ok35.add (af := c_isthmusref23_Digits 29) (by kernel_rfl) digitsR_ok
noncomputable def pr37 : Prog := pr36.add 10 (gLineS (zU 1))
theorem ok37 : ProgOk Tryd.prog pr37 := ok36.add (af := c_isthmusref23_Line 21 27 28 29 22) (by kernel_rfl) (lineR_ok (by kernel_rfl) (by kernel_rfl) (by kernel_rfl) (by kernel_rfl) (by kernel_rfl))
noncomputable def pr38 : Prog := pr37.add 12 (gWr (zU 1))
theorem ok38 : ProgOk Tryd.prog pr38 := ok37.add (af := c_isthmusref23_Write 10) (by kernel_rfl) (writeR_ok (zU_ok 1) (by kernel_rfl))
theorem tab {laid : List (String × Go.DataW Unit)} {W : World} (hm : ("internal/strconv.uint64pow10", Go.Lib.tabData .u64 Go.Lib.pow10Tab) ∈ laid) (h : laidMet Tryd.prog laid W) : Go.Lib.TabIs Tryd.prog W "internal/strconv.uint64pow10" .u64 Go.Lib.pow10Tab := by
  obtain ⟨ps, hl, _⟩ := h
  exact tabIs_at nameT rfl Tryd.underlying118 Tryd.underlying108 (by kernel_rfl) (by kernel_rfl) hl hm
end Go.Proofs.YtjcchmmmbegamaaDoor.ScrSeat4
