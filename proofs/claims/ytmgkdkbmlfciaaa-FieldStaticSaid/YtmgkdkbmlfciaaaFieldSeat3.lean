/- What the functions of this seat answer: FieldStatic, FieldAll. -/
import Derived.Test.YtmgkdkbmlfciaaaRows
import Derived.Test.YtmgkdkbmlfciaaaAmLaw
import Derived.Test.YtmgkdkbmlfciaaaAmExt
import Derived.Test.YtmgkdkbmlfciaaaAmAbs2
import Derived.Test.YtmgkdkbmlfciaaaField22
import Derived.ProofKit
namespace Go.Proofs.Ytmgkdkbmlfciaaa.FieldSeat3
open Am
set_option maxRecDepth 100000
noncomputable def pr0 : Prog := (progOf Try.prog).add 46 xIndexByte
theorem ok0 : ProgOk Try.prog pr0 := (progOf_ok Try.prog).addFor (indexByte_ok Try.func46 (by kernel_rfl) (by kernel_rfl) (by kernel_rfl) (by kernel_rfl))
theorem begunX : ExtFor Try.prog 10 (xConst (.b true)) := closed_of_yes ok0 (by kernel_rfl) (n := 3000) (by kernel_rfl)
noncomputable def pr1 : Prog := pr0.add 10 (xConst (.b true))
theorem ok1 : ProgOk Try.prog pr1 := ok0.addFor begunX
noncomputable def pr2 : Prog := pr1.add 40 xIndexByte
theorem ok2 : ProgOk Try.prog pr2 := ok1.add (af := c_stringslite_IndexByte 46) (by kernel_rfl) (indexByteS_ok (by kernel_rfl))
noncomputable def pr3 : Prog := pr2.add 55 gIx1
theorem ok3 : ProgOk Try.prog pr3 := ok2.add (af := c_stringslite_Index 40 54 53 56) (by kernel_rfl) (ix1_ok (by kernel_rfl))
noncomputable def pr4 : Prog := pr3.add 51 gCutS
theorem ok4 : ProgOk Try.prog pr4 := ok3.add (af := c_stringslite_Cut 55) (by kernel_rfl) (cutS_ok (by kernel_rfl))
noncomputable def pr5 : Prog := pr4.add 45 gCutS
theorem ok5 : ProgOk Try.prog pr5 := ok4.add (af := c_strings_Cut 51) (by kernel_rfl) (cut_ok (by kernel_rfl))
noncomputable def pr6 : Prog := pr5.add 37 gCut
theorem ok6 : ProgOk Try.prog pr6 := ok5.add (af := c_field_cut 45) (by kernel_rfl) (fcut_ok (by kernel_rfl))
noncomputable def pr7 : Prog := pr6.add 36 (gTab tabS)
theorem ok7 : ProgOk Try.prog pr7 := ok6.add (af := c_field_static) (by kernel_rfl) static_ok
noncomputable def pr8 : Prog := pr7.add 38 (gTab tabR)
theorem ok8 : ProgOk Try.prog pr8 := ok7.add (af := c_isthmusref3_Table) (by kernel_rfl) table_ok
noncomputable def pr9 : Prog := pr8.add 23 gStat
theorem ok9 : ProgOk Try.prog pr9 := ok8.add (af := c_field_Static 36 37) (by kernel_rfl) (Static_ok (by kernel_rfl) (by kernel_rfl))
noncomputable def pr10 : Prog := pr9.add 24 gStat
theorem ok10 : ProgOk Try.prog pr10 := ok9.add (af := c_isthmusref3_Static 38) (by kernel_rfl) (rStatic_ok (by kernel_rfl))
noncomputable def pr11 : Prog := pr10.add 26 gFind
theorem ok11 : ProgOk Try.prog pr11 := ok10.add (af := c_isthmusref3_Find 38) (by kernel_rfl) (rFind_ok (by kernel_rfl))
noncomputable def pr12 : Prog := pr11.add 27 (gAll 39)
theorem ok12 : ProgOk Try.prog pr12 := ok11.add (af := c_field_All 39) (by kernel_rfl) all_ok
noncomputable def pr13 : Prog := pr12.add 25 gFind
theorem ok13 : ProgOk Try.prog pr13 := ok12.add (af := c_field_Find 27) (by kernel_rfl) (find_ok (ks := 36) (kc := 37) (kA := 39) (by kernel_rfl) (by kernel_rfl) (by kernel_rfl) (by kernel_rfl) (by kernel_rfl))
theorem staticLaw (xs : List Dt) (h : Dt.hasL [.i .i64, .s, .s] xs) : wpF pr13 (c_isthmuslaw3_FieldStatic 10 23 24 25 26) (Dt.args xs h0).1 (Dt.args xs h0).2 (fun v _ => v = .b true) := by
  obtain ⟨x, xs1, rfl, h1, ha⟩ := hasL_cons h
  obtain ⟨y, xs2, rfl, h2, ha⟩ := hasL_cons ha
  obtain ⟨z, xs3, rfl, h3, ha⟩ := hasL_cons ha
  obtain rfl := hasL_nil ha
  obtain ⟨i, rfl, _⟩ := has_i h1
  obtain ⟨nm, rfl, _⟩ := has_s h2
  obtain ⟨vl, rfl, _⟩ := has_s h3
  exact fieldStatic_law (by kernel_rfl) (by kernel_rfl) (by kernel_rfl) (by kernel_rfl) (by kernel_rfl) i nm vl h0
theorem allLaw (xs : List Dt) (h : Dt.hasL [.i .i64] xs) : wpF pr13 (c_isthmuslaw3_FieldAll 10 27 24) (Dt.args xs h0).1 (Dt.args xs h0).2 (fun v _ => v = .b true) := by
  obtain ⟨x, xs1, rfl, h1, ha⟩ := hasL_cons h
  obtain rfl := hasL_nil ha
  obtain ⟨i, rfl, _⟩ := has_i h1
  exact fieldAll_law (ks := 36) (kc := 37) (kA := 39) (by kernel_rfl) (by kernel_rfl) (by kernel_rfl) (by kernel_rfl) (by kernel_rfl) (by kernel_rfl) (by kernel_rfl) i h0
end Go.Proofs.Ytmgkdkbmlfciaaa.FieldSeat3
