/- What the functions of this seat answer: the start of it. -/
import Derived.Test.YtjcchmmmbegamaaDoorRows
import Derived.Test.YtjcchmmmbegamaaDoorAmAll2
import Derived.Test.YtjcchmmmbegamaaDoorAmBulk
import Derived.Test.YtjcchmmmbegamaaDoorScrW
import Derived.Test.YtjcchmmmbegamaaDoorScrB
import Derived.Test.YtjcchmmmbegamaaDoorScrV
import Derived.ProofKit
namespace Go.Proofs.YtjcchmmmbegamaaDoor.ScrSeat
open Am Go.Proofs
set_option maxRecDepth 100000
noncomputable def pr0 : Prog := (progOf Tryd.prog).add 70 xIndexByte
theorem ok0 : ProgOk Tryd.prog pr0 := (progOf_ok _).addFor (indexByte_ok Tryd.func70 (by kernel_rfl) (by kernel_rfl) (by kernel_rfl) (by kernel_rfl))
noncomputable def pr1 : Prog := pr0.add 90 xCount
theorem ok1 : ProgOk Tryd.prog pr1 := ok0.addFor (count_ok Tryd.func90 (by kernel_rfl) (by kernel_rfl) (by kernel_rfl) (by kernel_rfl))
noncomputable def pr2 : Prog := pr1.add 26 xJoin
theorem ok2 : ProgOk Tryd.prog pr2 := ok1.addFor (xJoin_ok Tryd.lays156 Tryd.Builder_Extra_156)
noncomputable def pr3 : Prog := pr2.add 53 (xFmt zS)
theorem ok3 : ProgOk Tryd.prog pr3 := ok2.addFor (fmtS_ok Tryd.lays173)
noncomputable def pr4 : Prog := pr3.add 36 gPl
theorem ok4 : ProgOk Tryd.prog pr4 := ok3.add (af := c_script_plain) (by kernel_rfl) splain_ok
noncomputable def pr5 : Prog := pr4.add 17 gTx2
theorem ok5 : ProgOk Tryd.prog pr5 := ok4.add (af := (c_script_Text 36)) (by kernel_rfl) (text_okP (by kernel_rfl))
noncomputable def pr6 : Prog := pr5.add 22 gTx2
theorem ok6 : ProgOk Tryd.prog pr6 := ok5.add (af := c_isthmusref23_Text) (by kernel_rfl) text_okR
noncomputable def pr7 : Prog := pr6.add 61 gPre
theorem ok7 : ProgOk Tryd.prog pr7 := ok6.add (af := c_stringslite_HasPrefix) (by kernel_rfl) prefixS_ok
noncomputable def pr8 : Prog := pr7.add 49 gPre
theorem ok8 : ProgOk Tryd.prog pr8 := ok7.add (af := (c_strings_HasPrefix 61)) (by kernel_rfl) (prefix_ok (by kernel_rfl))
noncomputable def pr9 : Prog := pr8.add 63 xIndexByte
theorem ok9 : ProgOk Tryd.prog pr9 := ok8.add (af := (c_stringslite_IndexByte 70)) (by kernel_rfl) (indexByteS_ok (by kernel_rfl))
noncomputable def pr10 : Prog := pr9.add 51 xIndexByte
theorem ok10 : ProgOk Tryd.prog pr10 := ok9.add (af := (c_strings_IndexByte 63)) (by kernel_rfl) (indexByte_ok' (by kernel_rfl))
noncomputable def pr11 : Prog := pr10.add 37 gCut2
theorem ok11 : ProgOk Tryd.prog pr11 := ok10.add (af := (c_script_cut 49 36 51)) (by kernel_rfl) (cut2_ok (by kernel_rfl) (by kernel_rfl) (by kernel_rfl))
noncomputable def pr12 : Prog := pr11.add 52 gDig
theorem ok12 : ProgOk Tryd.prog pr12 := ok11.add (af := c_isthmusref23_digit) (by kernel_rfl) digit_ok
noncomputable def pr13 : Prog := pr12.add 38 gTextR
theorem ok13 : ProgOk Tryd.prog pr13 := ok12.add (af := (c_isthmusref23_text 52)) (by kernel_rfl) (textR_ok (by kernel_rfl))
noncomputable def pr14 : Prog := pr13.add 18 gRT
theorem ok14 : ProgOk Tryd.prog pr14 := ok13.add (af := (c_script_ReadText 37)) (by kernel_rfl) (readTextP_ok (by kernel_rfl))
noncomputable def pr15 : Prog := pr14.add 19 gRT
theorem ok15 : ProgOk Tryd.prog pr15 := ok14.add (af := (c_isthmusref23_ReadText 38)) (by kernel_rfl) (readTextR_ok (by kernel_rfl))
noncomputable def pr16 : Prog := pr15.add 62 gTrimP
theorem ok16 : ProgOk Tryd.prog pr16 := ok15.add (af := (c_stringslite_TrimPrefix 61)) (by kernel_rfl) (trimPS_ok (by kernel_rfl))
noncomputable def pr17 : Prog := pr16.add 50 gTrimP
theorem ok17 : ProgOk Tryd.prog pr17 := ok16.add (af := (c_strings_TrimPrefix 62)) (by kernel_rfl) (trimP_ok (by kernel_rfl))
noncomputable def pr18 : Prog := pr17.add 35 gOne
theorem ok18 : ProgOk Tryd.prog pr18 := ok17.add (af := (c_script_one 37 49 50)) (by kernel_rfl) (one_ok (by kernel_rfl) (by kernel_rfl) (by kernel_rfl))
noncomputable def pr19 : Prog := pr18.add 15 gRF
theorem ok19 : ProgOk Tryd.prog pr19 := ok18.add (af := (c_script_ReadFields 35)) (by kernel_rfl) (readFieldsP_ok (by kernel_rfl))
noncomputable def pr20 : Prog := pr19.add 20 gRF
theorem ok20 : ProgOk Tryd.prog pr20 := ok19.add (af := (c_isthmusref23_ReadFields 38)) (by kernel_rfl) (readFieldsR_ok (by kernel_rfl))
noncomputable def pr21 : Prog := pr20.add 14 gFld
theorem ok21 : ProgOk Tryd.prog pr21 := ok20.add (af := (c_script_Fields 17 26)) (by kernel_rfl) (fieldsP_ok (by kernel_rfl) (by kernel_rfl))
noncomputable def pr22 : Prog := pr21.add 21 gFld
theorem ok22 : ProgOk Tryd.prog pr22 := ok21.add (af := (c_isthmusref23_Fields 22)) (by kernel_rfl) (fieldsR_ok (by kernel_rfl))
noncomputable def pr23 : Prog := pr22.add 41 gRole
theorem ok23 : ProgOk Tryd.prog pr23 := ok22.add (af := c_script_role) (by kernel_rfl) roleP_ok
noncomputable def pr24 : Prog := pr23.add 43 gEnd
theorem ok24 : ProgOk Tryd.prog pr24 := ok23.add (af := c_script_end) (by kernel_rfl) endP_ok
noncomputable def pr25 : Prog := pr24.add 42 (gNumS zS)
theorem ok25 : ProgOk Tryd.prog pr25 := ok24.add (af := (c_script_number 53)) (by kernel_rfl) (numberS_ok (by kernel_rfl))
noncomputable def pr26 : Prog := pr25.add 9 (gLineS zS)
theorem ok26 : ProgOk Tryd.prog pr26 := ok25.add (af := (c_script_Line 24 25 26)) (by kernel_rfl) (lineP_ok (kf := 14) (kr := 41) (kn := 42) (kt := 17) (ke := 43) (km := 44) zS_ok (by kernel_rfl) (by kernel_rfl) (by kernel_rfl) (by kernel_rfl) (by kernel_rfl) (by kernel_rfl) (by kernel_rfl) (by kernel_rfl) (by kernel_rfl) (by kernel_rfl) (by kernel_rfl) (by kernel_rfl))
theorem lineX : ExtFor Tryd.prog 9 (gLineS zS) := fun args h v h' hg B e w cargs F n hv s hF => ok26.ext 9 (gLineS zS) (by kernel_rfl) args h v h' hg B e w cargs F n hv s hF
noncomputable def pr27 : Prog := pr26.add 11 (gWr zS)
theorem ok27 : ProgOk Tryd.prog pr27 := ok26.addFor (ScrW.write_ok zS_ok lineX)
noncomputable def pr28 : Prog := pr27.add 69 ScrV.xWhole1
theorem ok28 : ProgOk Tryd.prog pr28 := ok27.addFor ScrV.whole1_ok
end Go.Proofs.YtjcchmmmbegamaaDoor.ScrSeat
