/- What the functions of this seat answer: asking. -/
import Derived.Test.YtibmhhdgcbaofaaDoorAskSeat
import Derived.Test.YtibmhhdgcbaofaaDoorAskA11
import Derived.Test.YtibmhhdgcbaofaaDoorField13
namespace Go.Proofs.YtibmhhdgcbaofaaDoor.AskSeat4
open Am
set_option maxRecDepth 100000
theorem makeX : ExtFor Tryd.prog 83 gMake := by
  refine ExtFor.closedArgs AskSeat.ok1 (n := 3000) (args0 := [.s [0, 10, 13]]) (v := .tup [.agg bits3, .b true]) (by kernel_rfl) (by kernel_rfl) (by kernel_rfl) (by kernel_rfl) ?_
  intro args h v' h' hg
  unfold gMake at hg
  split at hg
  · split at hg
    · rename_i hc; subst hc; cases hg; exact ⟨rfl, rfl, rfl⟩
    · cases hg
  · cases hg
noncomputable def pr2 : Prog := AskSeat.pr1.add 83 gMake
theorem ok2 : ProgOk Tryd.prog pr2 := AskSeat.ok1.addFor makeX
noncomputable def pr3 : Prog := pr2.add 64 xIndexByte
theorem ok3 : ProgOk Tryd.prog pr3 := ok2.add (af := c_stringslite_IndexByte 89) (by kernel_rfl) (indexByteS_ok (by kernel_rfl))
noncomputable def pr4 : Prog := pr3.add 38 xIndexByte
theorem ok4 : ProgOk Tryd.prog pr4 := ok3.add (af := c_strings_IndexByte 64) (by kernel_rfl) (indexByte_ok' (by kernel_rfl))
noncomputable def pr5 : Prog := pr4.add 105 gVR
theorem ok5 : ProgOk Tryd.prog pr5 := ok4.add (af := c_unicode_utf8_ValidRune) (by kernel_rfl) validRune_ok
noncomputable def pr6 : Prog := pr5.add 102 gIR
theorem ok6 : ProgOk Tryd.prog pr6 := ok5.add (af := c_strings_IndexRune 38 105 98 97) (by kernel_rfl) (indexRune_ok (by kernel_rfl) (by kernel_rfl) _ _)
noncomputable def pr7 : Prog := pr6.add 103 gUse
theorem ok7 : ProgOk Tryd.prog pr7 := ok6.add (af := c_strings_shouldUseASCIISet) (by kernel_rfl) use_ok
noncomputable def pr8 : Prog := pr7.add 93 gContains
theorem ok8 : ProgOk Tryd.prog pr8 := ok7.add (af := c_strings_asciiSet_contains) (by kernel_rfl) contains_ok
noncomputable def pr9 : Prog := pr8.add 96 gIA
theorem ok9 : ProgOk Tryd.prog pr9 := ok8.add (af := c_strings_IndexAny 102 103 83 93) (by kernel_rfl) (indexAny_ok (by kernel_rfl) (by kernel_rfl) (by kernel_rfl) (by kernel_rfl))
noncomputable def pr10 : Prog := pr9.add 86 gCA
theorem ok10 : ProgOk Tryd.prog pr10 := ok9.add (af := c_strings_ContainsAny 96) (by kernel_rfl) (containsAny_ok (by kernel_rfl))
noncomputable def pr11 : Prog := pr10.add 87 gBlank
theorem ok11 : ProgOk Tryd.prog pr11 := ok10.add (af := c_field_blank) (by kernel_rfl) blank_ok
noncomputable def pr12 : Prog := pr11.add 62 gValue
theorem ok12 : ProgOk Tryd.prog pr12 := ok11.add (af := c_field_Value 86 87) (by kernel_rfl) (value_ok (by kernel_rfl) (by kernel_rfl))
noncomputable def pr13 : Prog := pr12.add 61 gName
theorem ok13 : ProgOk Tryd.prog pr13 := ok12.add (af := c_field_Name 38) (by kernel_rfl) (name_ok (by kernel_rfl))
noncomputable def pr14 : Prog := pr13.add 100 gHas'
theorem ok14 : ProgOk Tryd.prog pr14 := ok13.add (af := c_isthmusref3_has) (by kernel_rfl) has_ok'
noncomputable def pr15 : Prog := pr14.add 92 gName
theorem ok15 : ProgOk Tryd.prog pr15 := ok14.add (af := c_isthmusref3_Name 100) (by kernel_rfl) (name3_ok (by kernel_rfl))
noncomputable def pr16 : Prog := pr15.add 73 gValue
theorem ok16 : ProgOk Tryd.prog pr16 := ok15.add (af := c_isthmusref3_Value) (by kernel_rfl) value3_ok
noncomputable def pr17 : Prog := pr16.add 66 gPre
theorem ok17 : ProgOk Tryd.prog pr17 := ok16.add (af := c_stringslite_HasPrefix) (by kernel_rfl) prefixS_ok
noncomputable def pr18 : Prog := pr17.add 40 gPre
theorem ok18 : ProgOk Tryd.prog pr18 := ok17.add (af := c_strings_HasPrefix 66) (by kernel_rfl) (prefix_ok (by kernel_rfl))
noncomputable def pr19 : Prog := pr18.add 65 gBarred
theorem ok19 : ProgOk Tryd.prog pr19 := ok18.add (af := c_field_barred) (by kernel_rfl) barred_ok
noncomputable def pr20 : Prog := pr19.add 39 gPseudo
theorem ok20 : ProgOk Tryd.prog pr20 := ok19.add (af := c_field_pseudo 62 40 61 65) (by kernel_rfl) (pseudo_ok (by kernel_rfl) (by kernel_rfl) (by kernel_rfl) (by kernel_rfl))
noncomputable def pr21 : Prog := pr20.add 23 (gTell reqP)
theorem ok21 : ProgOk Tryd.prog pr21 := ok20.add (af := c_field_Request 39 40) (by kernel_rfl) (request_ok (by kernel_rfl) (by kernel_rfl))
noncomputable def pr25 : Prog := pr21.add 74 gPlain
theorem ok25 : ProgOk Tryd.prog pr25 := ok21.add (af := c_isthmusref3_plain 92) (by kernel_rfl) (plain_ok (by kernel_rfl))
noncomputable def pr26 : Prog := pr25.add 53 gList
theorem ok26 : ProgOk Tryd.prog pr26 := ok25.add (af := c_isthmusref3_list 73 74) (by kernel_rfl) (list_ok (by kernel_rfl) (by kernel_rfl))
noncomputable def pr27 : Prog := pr26.add 27 gOf
theorem ok27 : ProgOk Tryd.prog pr27 := ok26.add (af := c_isthmusref3_Of) (by kernel_rfl) of_ok
noncomputable def pr28 : Prog := pr27.add 28 (gTell reqP)
theorem ok28 : ProgOk Tryd.prog pr28 := ok27.add (af := c_isthmusref3_Request 53 27) (by kernel_rfl) (rrequest_ok (by kernel_rfl) (by kernel_rfl))
noncomputable def pr29 : Prog := pr28.add 44 (gCh chG)
theorem ok29 : ProgOk Tryd.prog pr29 := ok28.add (af := c_upgrade_graph) (by kernel_rfl) graph_ok
noncomputable def pr30 : Prog := pr29.add 43 (gCh chT)
theorem ok30 : ProgOk Tryd.prog pr30 := ok29.add (af := c_upgrade_text) (by kernel_rfl) text_ok
noncomputable def pr31 : Prog := pr30.add 67 (gCh chU)
theorem ok31 : ProgOk Tryd.prog pr31 := ok30.add (af := c_upgrade_great) (by kernel_rfl) great_ok
noncomputable def pr32 : Prog := pr31.add 42 (gAllB 44 43 67)
theorem ok32 : ProgOk Tryd.prog pr32 := ok31.add (af := c_upgrade_all) (by kernel_rfl) (allB_ok (by kernel_rfl) (by kernel_rfl) (by kernel_rfl))
noncomputable def pr33 : Prog := pr32.add 41 (gTx ownB)
theorem ok33 : ProgOk Tryd.prog pr33 := ok32.add (af := c_upgrade_own) (by kernel_rfl) own_ok
noncomputable def pr34 : Prog := pr33.add 45 (gTx methodB)
theorem ok34 : ProgOk Tryd.prog pr34 := ok33.add (af := c_upgrade_method 42 67) (by kernel_rfl) (method_ok (kg := 44) (kt := 43) (by kernel_rfl) (by decide))
noncomputable def pr35 : Prog := pr34.add 46 (gTx pathB)
theorem ok35 : ProgOk Tryd.prog pr35 := ok34.add (af := c_upgrade_path 40 42 44) (by kernel_rfl) (path_ok (kt := 43) (ku := 67) (by kernel_rfl) (by kernel_rfl))
noncomputable def pr36 : Prog := pr35.add 29 (gTx methodB)
theorem ok36 : ProgOk Tryd.prog pr36 := ok35.add (af := c_isthmusref18_method) (by kernel_rfl) method18_ok
noncomputable def pr37 : Prog := pr36.add 30 gVis
theorem ok37 : ProgOk Tryd.prog pr37 := ok36.add (af := c_isthmusref18_visible) (by kernel_rfl) visible_ok
noncomputable def pr38 : Prog := pr37.add 70 gWord
theorem ok38 : ProgOk Tryd.prog pr38 := ok37.add (af := c_frame_word) (by kernel_rfl) word_ok
noncomputable def pr39 : Prog := pr38.add 48 gLow
theorem ok39 : ProgOk Tryd.prog pr39 := ok38.add (af := c_frame_low) (by kernel_rfl) low_ok
noncomputable def pr40 : Prog := pr39.add 47 gPadded
theorem ok40 : ProgOk Tryd.prog pr40 := ok39.add (af := c_frame_padded) (by kernel_rfl) padded_ok
noncomputable def pr41 : Prog := pr40.add 75 gWithin7
theorem ok41 : ProgOk Tryd.prog pr41 := ok40.add (af := c_isthmusref7_within) (by kernel_rfl) within7_ok
noncomputable def pr42 : Prog := pr41.add 57 gBe
theorem ok42 : ProgOk Tryd.prog pr42 := ok41.add (af := c_isthmusref7_be) (by kernel_rfl) be_ok
noncomputable def pr43 : Prog := pr42.add 18 gCode
theorem ok43 : ProgOk Tryd.prog pr43 := ok42.add (af := c_upgrade_Code) (by kernel_rfl) code_ok
noncomputable def pr44 : Prog := pr43.add 21 gCode
theorem ok44 : ProgOk Tryd.prog pr44 := ok43.add (af := c_isthmusref18_Code) (by kernel_rfl) code18_ok

theorem bulkK {H : Type} : ∃ K : Bulk H, K.BA = Rows.uptoBulkAll ∧ K.B = Rows.uptoBulk :=
  ⟨{ B := Rows.uptoBulk, BA := Rows.uptoBulkAll,
     one := fun d => by
       cases d with
       | lit l => cases l <;> simp [Rows.uptoBulk]
       | _ => simp [Rows.uptoBulk]
     str := fun bs => by simp [Rows.uptoBulk]
     slice := fun es sp => by simp only [Rows.uptoBulk]; omega
     agg := fun ps => by simp [Rows.uptoBulk]
     cons := fun d r => by simp [Rows.uptoBulkAll] }, rfl, rfl⟩

theorem allLaw (m : Int) (xs : List Dt) (h : Dt.hasL [fdsTy, stsTy] xs) (hb : Dt.bulkL xs ≤ 1048576) : wpF pr44 (c_isthmuslaw18_AskAll 8 9 10) (Dt.args xs (hG 0 m)).1 (Dt.args xs (hG 0 m)).2 (fun v _ => v = .b true) := by
  have hh := args_has (G := 0) (by decide) xs m
  obtain ⟨x, xs1, rfl, h1, ha⟩ := hasL_cons h
  obtain ⟨y, xs2, rfl, h2, hb2⟩ := hasL_cons ha
  obtain rfl := hasL_nil hb2
  obtain ⟨fs, q1, q2, q3⟩ := fields_ofB h1
  obtain ⟨ss, r1, r2⟩ := settings_ofB h2
  simp only [Dt.bulkL] at hb
  obtain ⟨p, c, ex, e1, e2, e3⟩ := q3 (hG 0 m)
  obtain ⟨q, c2, ex2, f1, f2, f3⟩ := r2 (x.arg (hG 0 m)).2
  have hargs : (Dt.args [x, y] (hG 0 m)) = ([.sl p fs.length c ex, .sl q ss.length c2 ex2], (y.arg (x.arg (hG 0 m)).2).2) := by
    simp only [Dt.args]
    rw [e1, f1]
  rw [hargs] at hh ⊢
  have hsm : smallF fs := fun f hf => by have := q2 f hf; omega
  have e2' := rowsIn_kept e2 f3
  refine askAll_law (e := (askF fs ss).1) (s := (askF fs ss).2) (by kernel_rfl) hh ?_ fun g hk => ?_
  · exact ask_runs (kq := 23) (kh := 24) (km := 25) (kc := 18) (kj := 26) (ko := 41) (ka := 42) (kt := 43) (kg := 44) (kr := 67) (kme := 45) (kpa := 46) (kpd := 47) (klow := 48) (kpay := 49) (kpr := 68) (kl := 69) (kw := 70)
      (by kernel_rfl) (by kernel_rfl) (by kernel_rfl) (by kernel_rfl) (by kernel_rfl) (by kernel_rfl) (by kernel_rfl) (by kernel_rfl) (by kernel_rfl) (by decide) (by kernel_rfl) (by kernel_rfl) (by kernel_rfl) (by kernel_rfl) (by kernel_rfl) (by kernel_rfl) (by kernel_rfl) (by kernel_rfl) (by kernel_rfl) (by kernel_rfl) (by kernel_rfl) e2' (by omega) hsm f2 (by omega)
  · rw [ask_same fs ss]
    exact askref_runs (ko := 27) (kq := 28) (km := 29) (kv := 30) (kmk := 31) (kc := 21) (kwr := 54) (kon := 55) (kpb := 56) (kbe := 57) (kwi := 75)
      (by kernel_rfl) (by kernel_rfl) (by kernel_rfl) (by kernel_rfl) (by kernel_rfl) (by kernel_rfl) (by kernel_rfl) (by kernel_rfl) (by kernel_rfl) (by kernel_rfl) (by kernel_rfl) (by kernel_rfl) (by kernel_rfl) (rowsIn_kept e2' hk) (by omega) hsm req_names (rowsIn_kept f2 hk) (by omega)
end Go.Proofs.YtibmhhdgcbaofaaDoor.AskSeat4
