/- What the functions of this seat answer, by the texts on the layer 'field'. -/
import Derived.Test.YtmgkdkbmlfciaaaRows
import Derived.Test.YtmgkdkbmlfciaaaAmLaw
import Derived.Test.YtmgkdkbmlfciaaaAmExt
import Derived.Test.YtmgkdkbmlfciaaaAmAbs2
import Derived.Test.YtmgkdkbmlfciaaaFieldParts
import Derived.Test.YtmgkdkbmlfciaaaField12
import Derived.Test.YtmgkdkbmlfciaaaField13
import Derived.ProofKit
namespace Go.Proofs.Ytmgkdkbmlfciaaa.FieldSeat
open Am
set_option maxRecDepth 100000
noncomputable def pr0 : Prog := (progOf Try.prog).add 46 xIndexByte
theorem ok0 : ProgOk Try.prog pr0 := (progOf_ok Try.prog).addFor (indexByte_ok Try.func46 (by kernel_rfl) (by kernel_rfl) (by kernel_rfl) (by kernel_rfl))
theorem begunX : ExtFor Try.prog 10 (xConst (.b true)) := closed_of_yes ok0 (by kernel_rfl) (n := 3000) (by kernel_rfl)
theorem makeX : ExtFor Try.prog 49 gMake := by
  refine ExtFor.closedArgs ok0 (n := 3000) (args0 := [.s [0, 10, 13]]) (v := .tup [.agg bits3, .b true]) (by kernel_rfl) (by kernel_rfl) (by kernel_rfl) (by kernel_rfl) ?_
  intro args h v' h' hg
  unfold gMake at hg
  split at hg
  · split at hg
    · rename_i hc; subst hc; cases hg; exact ⟨rfl, rfl, rfl⟩
    · cases hg
  · cases hg
noncomputable def pr1 : Prog := pr0.add 10 (xConst (.b true))
theorem ok1 : ProgOk Try.prog pr1 := ok0.addFor begunX
noncomputable def pr2 : Prog := pr1.add 49 gMake
theorem ok2 : ProgOk Try.prog pr2 := ok1.addFor makeX
noncomputable def pr3 : Prog := pr2.add 40 xIndexByte
theorem ok3 : ProgOk Try.prog pr3 := ok2.add (af := c_stringslite_IndexByte 46) (by kernel_rfl) (indexByteS_ok (by kernel_rfl))
noncomputable def pr4 : Prog := pr3.add 28 xIndexByte
theorem ok4 : ProgOk Try.prog pr4 := ok3.add (af := c_strings_IndexByte 40) (by kernel_rfl) (indexByte_ok' (by kernel_rfl))
noncomputable def pr5 : Prog := pr4.add 52 gVR
theorem ok5 : ProgOk Try.prog pr5 := ok4.add (af := c_unicode_utf8_ValidRune) (by kernel_rfl) validRune_ok
noncomputable def pr6 : Prog := pr5.add 47 gIR
theorem ok6 : ProgOk Try.prog pr6 := ok5.add (af := c_strings_IndexRune 28 52 53 54) (by kernel_rfl) (indexRune_ok (by kernel_rfl) (by kernel_rfl) _ _)
noncomputable def pr7 : Prog := pr6.add 48 gUse
theorem ok7 : ProgOk Try.prog pr7 := ok6.add (af := c_strings_shouldUseASCIISet) (by kernel_rfl) use_ok
noncomputable def pr8 : Prog := pr7.add 50 gContains
theorem ok8 : ProgOk Try.prog pr8 := ok7.add (af := c_strings_asciiSet_contains) (by kernel_rfl) contains_ok
noncomputable def pr9 : Prog := pr8.add 41 gIA
theorem ok9 : ProgOk Try.prog pr9 := ok8.add (af := c_strings_IndexAny 47 48 49 50) (by kernel_rfl) (indexAny_ok (by kernel_rfl) (by kernel_rfl) (by kernel_rfl) (by kernel_rfl))
noncomputable def pr10 : Prog := pr9.add 30 gCA
theorem ok10 : ProgOk Try.prog pr10 := ok9.add (af := c_strings_ContainsAny 41) (by kernel_rfl) (containsAny_ok (by kernel_rfl))
noncomputable def pr11 : Prog := pr10.add 31 gBlank
theorem ok11 : ProgOk Try.prog pr11 := ok10.add (af := c_field_blank) (by kernel_rfl) blank_ok
noncomputable def pr12 : Prog := pr11.add 13 gValue
theorem ok12 : ProgOk Try.prog pr12 := ok11.add (af := c_field_Value 30 31) (by kernel_rfl) (value_ok (by kernel_rfl) (by kernel_rfl))
noncomputable def pr13 : Prog := pr12.add 11 gName
theorem ok13 : ProgOk Try.prog pr13 := ok12.add (af := c_field_Name 28) (by kernel_rfl) (name_ok (by kernel_rfl))
noncomputable def pr14 : Prog := pr13.add 29 gHas'
theorem ok14 : ProgOk Try.prog pr14 := ok13.add (af := c_isthmusref3_has) (by kernel_rfl) has_ok'
noncomputable def pr15 : Prog := pr14.add 12 gName
theorem ok15 : ProgOk Try.prog pr15 := ok14.add (af := c_isthmusref3_Name 29) (by kernel_rfl) (name3_ok (by kernel_rfl))
noncomputable def pr16 : Prog := pr15.add 14 gValue
theorem ok16 : ProgOk Try.prog pr16 := ok15.add (af := c_isthmusref3_Value) (by kernel_rfl) value3_ok

theorem partsLaw (xs : List Dt) (h : Dt.hasL [.s] xs) : wpF pr16 (c_isthmuslaw3_FieldParts 10 11 12 13 14) (Dt.args xs h0).1 (Dt.args xs h0).2 (fun v _ => v = .b true) := by
  obtain ⟨x, xs1, rfl, h1, ha⟩ := hasL_cons h
  obtain rfl := hasL_nil ha
  obtain ⟨l, rfl, _⟩ := has_s h1
  exact fieldParts_law (by kernel_rfl) (by kernel_rfl) (by kernel_rfl) (by kernel_rfl) (by kernel_rfl) l h0
noncomputable def pr17 : Prog := pr16.add 43 gPre
theorem ok17 : ProgOk Try.prog pr17 := ok16.add (af := c_stringslite_HasPrefix) (by kernel_rfl) prefixS_ok
noncomputable def pr18 : Prog := pr17.add 33 gPre
theorem ok18 : ProgOk Try.prog pr18 := ok17.add (af := c_strings_HasPrefix 43) (by kernel_rfl) (prefix_ok (by kernel_rfl))
noncomputable def pr19 : Prog := pr18.add 42 gBarred
theorem ok19 : ProgOk Try.prog pr19 := ok18.add (af := c_field_barred) (by kernel_rfl) barred_ok
noncomputable def pr20 : Prog := pr19.add 32 gPseudo
theorem ok20 : ProgOk Try.prog pr20 := ok19.add (af := c_field_pseudo 13 33 11 42) (by kernel_rfl) (pseudo_ok (by kernel_rfl) (by kernel_rfl) (by kernel_rfl) (by kernel_rfl))
noncomputable def pr21 : Prog := pr20.add 15 (gTell reqP)
theorem ok21 : ProgOk Try.prog pr21 := ok20.add (af := c_field_Request 32 33) (by kernel_rfl) (request_ok (by kernel_rfl) (by kernel_rfl))
noncomputable def pr22 : Prog := pr21.add 17 (gTell respP)
theorem ok22 : ProgOk Try.prog pr22 := ok21.add (af := c_field_Response 32) (by kernel_rfl) (response_ok (by kernel_rfl))
noncomputable def pr23 : Prog := pr22.add 19 (gTell fun m => decide (m.length = 0))
theorem ok23 : ProgOk Try.prog pr23 := ok22.add (af := c_field_Trailers 32) (by kernel_rfl) (trailers_ok (by kernel_rfl))
noncomputable def pr24 : Prog := pr23.add 21 gSize
theorem ok24 : ProgOk Try.prog pr24 := ok23.add (af := c_field_Size) (by kernel_rfl) size_ok
noncomputable def pr25 : Prog := pr24.add 44 gPlain
theorem ok25 : ProgOk Try.prog pr25 := ok24.add (af := c_isthmusref3_plain 12) (by kernel_rfl) (plain_ok (by kernel_rfl))
noncomputable def pr26 : Prog := pr25.add 34 gList
theorem ok26 : ProgOk Try.prog pr26 := ok25.add (af := c_isthmusref3_list 14 44) (by kernel_rfl) (list_ok (by kernel_rfl) (by kernel_rfl))
noncomputable def pr27 : Prog := pr26.add 35 gOf
theorem ok27 : ProgOk Try.prog pr27 := ok26.add (af := c_isthmusref3_Of) (by kernel_rfl) of_ok
noncomputable def pr28 : Prog := pr27.add 16 (gTell reqP)
theorem ok28 : ProgOk Try.prog pr28 := ok27.add (af := c_isthmusref3_Request 34 35) (by kernel_rfl) (rrequest_ok (by kernel_rfl) (by kernel_rfl))
noncomputable def pr29 : Prog := pr28.add 18 (gTell respP)
theorem ok29 : ProgOk Try.prog pr29 := ok28.add (af := c_isthmusref3_Response 34 35) (by kernel_rfl) (rresponse_ok (by kernel_rfl) (by kernel_rfl))
noncomputable def pr30 : Prog := pr29.add 20 (gTell fun m => decide (m.length = 0))
theorem ok30 : ProgOk Try.prog pr30 := ok29.add (af := c_isthmusref3_Trailers 34) (by kernel_rfl) (rtrailers_ok (by kernel_rfl))
noncomputable def pr31 : Prog := pr30.add 22 gSize
theorem ok31 : ProgOk Try.prog pr31 := ok30.add (af := c_isthmusref3_Size) (by kernel_rfl) rsize_ok

theorem listsLaw (xs : List Dt) (h : Dt.hasL [fdsTy] xs) : wpF pr31 (c_isthmuslaw3_FieldLists 10 15 16 17 18 19 20 21 22) (Dt.args xs h0).1 (Dt.args xs h0).2 (fun v _ => v = .b true) := by
  obtain ⟨x, xs1, rfl, h1, ha⟩ := hasL_cons h
  obtain rfl := hasL_nil ha
  obtain ⟨fs, _, hf⟩ := fields_of h1
  obtain ⟨p, cap, ex, e1, e2, _⟩ := hf h0
  simp only [Dt.args, e1]
  exact fieldLists_law (by kernel_rfl) (by kernel_rfl) (by kernel_rfl) (by kernel_rfl) (by kernel_rfl) (by kernel_rfl) (by kernel_rfl) (by kernel_rfl) (by kernel_rfl) e2

theorem moreLaw (xs : List Dt) (h : Dt.hasL [fdsTy, fdsTy, .i .i64] xs) : wpF pr31 (c_isthmuslaw3_FieldMore 10 19 15 17) (Dt.args xs h0).1 (Dt.args xs h0).2 (fun v _ => v = .b true) := by
  obtain ⟨x, xs1, rfl, h1, ha⟩ := hasL_cons h
  obtain ⟨y, xs2, rfl, h2, ha⟩ := hasL_cons ha
  obtain ⟨z, xs3, rfl, h3, ha⟩ := hasL_cons ha
  obtain rfl := hasL_nil ha
  obtain ⟨fs, _, hf⟩ := fields_of h1
  obtain ⟨more, _, hm⟩ := fields_of h2
  obtain ⟨p, cap, ex, e1, e2, _⟩ := hf h0
  obtain ⟨q, cap2, ex2, e3, e4, k2⟩ := hm (x.arg h0).2
  obtain ⟨k, rfl, _⟩ := has_i h3
  have e5 : ∀ g, ((Dt.i .i64 k).arg g) = (.i .i64 k, g) := fun g => rfl
  simp only [Dt.args, e1, e3, e5]
  exact fieldMore_law (by kernel_rfl) (by kernel_rfl) (by kernel_rfl) (by kernel_rfl) (readRows_kept e2 k2) e4 k
end Go.Proofs.Ytmgkdkbmlfciaaa.FieldSeat
