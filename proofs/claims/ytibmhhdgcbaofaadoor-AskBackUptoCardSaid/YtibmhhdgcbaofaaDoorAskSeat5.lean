/- What the functions of this seat answer: asking, and reading it back. -/
import Derived.Test.YtibmhhdgcbaofaaDoorAskSeat
import Derived.Test.YtibmhhdgcbaofaaDoorAskA11
import Derived.Test.YtibmhhdgcbaofaaDoorAskR9
namespace Go.Proofs.YtibmhhdgcbaofaaDoor.AskSeat5
open Am
set_option maxRecDepth 100000
theorem makeX : ExtFor Tryd.prog 83 gMake := by
  refine ExtFor.closedArgs AskSeat.ok1 (n := 3000) (args0 := [.s [0, 10, 13]]) (v := .tup [.agg bits3, .b true]) (by kernel_rfl) (by kernel_rfl) (by kernel_rfl) (by kernel_rfl) ?_
  intro args h v' h' hg
  unfold gMake at hg
  split at hg
  · split at hg
    · rename_i hc; subst hc; cases hg; exact ⟨rfl, rfl, rfl⟩
    · cases hg
  · cases hg
noncomputable def pr2 : Prog := AskSeat.pr1.add 83 gMake
theorem ok2 : ProgOk Tryd.prog pr2 := AskSeat.ok1.addFor makeX
noncomputable def pr3 : Prog := pr2.add 64 xIndexByte
theorem ok3 : ProgOk Tryd.prog pr3 := ok2.add (af := c_stringslite_IndexByte 89) (by kernel_rfl) (indexByteS_ok (by kernel_rfl))
noncomputable def pr4 : Prog := pr3.add 38 xIndexByte
theorem ok4 : ProgOk Tryd.prog pr4 := ok3.add (af := c_strings_IndexByte 64) (by kernel_rfl) (indexByte_ok' (by kernel_rfl))
noncomputable def pr5 : Prog := pr4.add 105 gVR
theorem ok5 : ProgOk Tryd.prog pr5 := ok4.add (af := c_unicode_utf8_ValidRune) (by kernel_rfl) validRune_ok
noncomputable def pr6 : Prog := pr5.add 102 gIR
theorem ok6 : ProgOk Tryd.prog pr6 := ok5.add (af := c_strings_IndexRune 38 105 98 97) (by kernel_rfl) (indexRune_ok (by kernel_rfl) (by kernel_rfl) _ _)
noncomputable def pr7 : Prog := pr6.add 103 gUse
theorem ok7 : ProgOk Tryd.prog pr7 := ok6.add (af := c_strings_shouldUseASCIISet) (by kernel_rfl) use_ok
noncomputable def pr8 : Prog := pr7.add 93 gContains
theorem ok8 : ProgOk Tryd.prog pr8 := ok7.add (af := c_strings_asciiSet_contains) (by kernel_rfl) contains_ok
noncomputable def pr9 : Prog := pr8.add 96 gIA
theorem ok9 : ProgOk Tryd.prog pr9 := ok8.add (af := c_strings_IndexAny 102 103 83 93) (by kernel_rfl) (indexAny_ok (by kernel_rfl) (by kernel_rfl) (by kernel_rfl) (by kernel_rfl))
noncomputable def pr10 : Prog := pr9.add 86 gCA
theorem ok10 : ProgOk Tryd.prog pr10 := ok9.add (af := c_strings_ContainsAny 96) (by kernel_rfl) (containsAny_ok (by kernel_rfl))
noncomputable def pr11 : Prog := pr10.add 87 gBlank
theorem ok11 : ProgOk Tryd.prog pr11 := ok10.add (af := c_field_blank) (by kernel_rfl) blank_ok
noncomputable def pr12 : Prog := pr11.add 62 gValue
theorem ok12 : ProgOk Tryd.prog pr12 := ok11.add (af := c_field_Value 86 87) (by kernel_rfl) (value_ok (by kernel_rfl) (by kernel_rfl))
noncomputable def pr13 : Prog := pr12.add 61 gName
theorem ok13 : ProgOk Tryd.prog pr13 := ok12.add (af := c_field_Name 38) (by kernel_rfl) (name_ok (by kernel_rfl))
noncomputable def pr14 : Prog := pr13.add 66 gPre
theorem ok14 : ProgOk Tryd.prog pr14 := ok13.add (af := c_stringslite_HasPrefix) (by kernel_rfl) prefixS_ok
noncomputable def pr15 : Prog := pr14.add 40 gPre
theorem ok15 : ProgOk Tryd.prog pr15 := ok14.add (af := c_strings_HasPrefix 66) (by kernel_rfl) (prefix_ok (by kernel_rfl))
noncomputable def pr16 : Prog := pr15.add 65 gBarred
theorem ok16 : ProgOk Tryd.prog pr16 := ok15.add (af := c_field_barred) (by kernel_rfl) barred_ok
noncomputable def pr17 : Prog := pr16.add 39 gPseudo
theorem ok17 : ProgOk Tryd.prog pr17 := ok16.add (af := c_field_pseudo 62 40 61 65) (by kernel_rfl) (pseudo_ok (by kernel_rfl) (by kernel_rfl) (by kernel_rfl) (by kernel_rfl))
noncomputable def pr18 : Prog := pr17.add 23 (gTell reqP)
theorem ok18 : ProgOk Tryd.prog pr18 := ok17.add (af := c_field_Request 39 40) (by kernel_rfl) (request_ok (by kernel_rfl) (by kernel_rfl))
noncomputable def pr19 : Prog := pr18.add 44 (gCh chG)
theorem ok19 : ProgOk Tryd.prog pr19 := ok18.add (af := c_upgrade_graph) (by kernel_rfl) graph_ok
noncomputable def pr20 : Prog := pr19.add 43 (gCh chT)
theorem ok20 : ProgOk Tryd.prog pr20 := ok19.add (af := c_upgrade_text) (by kernel_rfl) text_ok
noncomputable def pr21 : Prog := pr20.add 67 (gCh chU)
theorem ok21 : ProgOk Tryd.prog pr21 := ok20.add (af := c_upgrade_great) (by kernel_rfl) great_ok
noncomputable def pr22 : Prog := pr21.add 42 (gAllB 44 43 67)
theorem ok22 : ProgOk Tryd.prog pr22 := ok21.add (af := c_upgrade_all) (by kernel_rfl) (allB_ok (by kernel_rfl) (by kernel_rfl) (by kernel_rfl))
noncomputable def pr23 : Prog := pr22.add 41 (gTx ownB)
theorem ok23 : ProgOk Tryd.prog pr23 := ok22.add (af := c_upgrade_own) (by kernel_rfl) own_ok
noncomputable def pr24 : Prog := pr23.add 45 (gTx methodB)
theorem ok24 : ProgOk Tryd.prog pr24 := ok23.add (af := c_upgrade_method 42 67) (by kernel_rfl) (method_ok (kg := 44) (kt := 43) (by kernel_rfl) (by decide))
noncomputable def pr25 : Prog := pr24.add 46 (gTx pathB)
theorem ok25 : ProgOk Tryd.prog pr25 := ok24.add (af := c_upgrade_path 40 42 44) (by kernel_rfl) (path_ok (kt := 43) (ku := 67) (by kernel_rfl) (by kernel_rfl))
noncomputable def pr26 : Prog := pr25.add 70 gWord
theorem ok26 : ProgOk Tryd.prog pr26 := ok25.add (af := c_frame_word) (by kernel_rfl) word_ok
noncomputable def pr27 : Prog := pr26.add 48 gLow
theorem ok27 : ProgOk Tryd.prog pr27 := ok26.add (af := c_frame_low) (by kernel_rfl) low_ok
noncomputable def pr28 : Prog := pr27.add 47 gPadded
theorem ok28 : ProgOk Tryd.prog pr28 := ok27.add (af := c_frame_padded) (by kernel_rfl) padded_ok
noncomputable def pr29 : Prog := pr28.add 18 gCode
theorem ok29 : ProgOk Tryd.prog pr29 := ok28.add (af := c_upgrade_Code) (by kernel_rfl) code_ok
noncomputable def pr30 : Prog := pr29.add 63 (gCutA 0)
theorem ok30 : ProgOk Tryd.prog pr30 := ok29.add (af := c_stringslite_Cut 88) (by kernel_rfl) (cutAS_ok (by kernel_rfl))
noncomputable def pr31 : Prog := pr30.add 37 (gCutA 0)
theorem ok31 : ProgOk Tryd.prog pr31 := ok30.add (af := c_strings_Cut 63) (by kernel_rfl) (cutA_ok (by kernel_rfl))
noncomputable def pr32 : Prog := pr31.add 17 (gLines 36)
theorem ok32 : ProgOk Tryd.prog pr32 := ok31.add (af := c_upgrade_Lines 36) (by kernel_rfl) linesP_ok
noncomputable def pr33 : Prog := pr32.add 19 gDec
theorem ok33 : ProgOk Tryd.prog pr33 := ok32.add (af := c_upgrade_Decode 38) (by kernel_rfl) (decode_ok (by kernel_rfl))
noncomputable def pr34 : Prog := pr33.add 81 gNum
theorem ok34 : ProgOk Tryd.prog pr34 := ok33.add (af := c_frame_number) (by kernel_rfl) number_ok
noncomputable def pr35 : Prog := pr34.add 76 gPlace
theorem ok35 : ProgOk Tryd.prog pr35 := ok34.add (af := c_frame_place) (by kernel_rfl) place_ok
noncomputable def pr36 : Prog := pr35.add 78 gSized
theorem ok36 : ProgOk Tryd.prog pr36 := ok35.add (af := c_frame_sized) (by kernel_rfl) sized_ok
noncomputable def pr37 : Prog := pr36.add 59 gSmall
theorem ok37 : ProgOk Tryd.prog pr37 := ok36.add (af := c_upgrade_small 67) (by kernel_rfl) (small_ok (by kernel_rfl))
noncomputable def pr38 : Prog := pr37.add 82 gTrimB
theorem ok38 : ProgOk Tryd.prog pr38 := ok37.add (af := c_strings_trimLeftByte) (by kernel_rfl) trimB_ok
noncomputable def pr39 : Prog := pr38.add 60 gTrim
theorem ok39 : ProgOk Tryd.prog pr39 := ok38.add (af := c_strings_TrimLeft 82 83 84 85) (by kernel_rfl) (trim_ok (by kernel_rfl))
noncomputable def pr40 : Prog := pr39.add 32 (gFirst 0)
theorem ok40 : ProgOk Tryd.prog pr40 := ok39.add (af := c_upgrade_first 37 45 46) (by kernel_rfl) (first_ok (by kernel_rfl) (by kernel_rfl) (by kernel_rfl))
noncomputable def pr41 : Prog := pr40.add 34 (gLine 0)
theorem ok41 : ProgOk Tryd.prog pr41 := ok40.add (af := c_upgrade_line 37 59 60 61 62 42 43) (by kernel_rfl) (line_ok (kg := 44) (kr := 67) (by kernel_rfl) (by kernel_rfl) (by kernel_rfl) (by kernel_rfl) (by kernel_rfl) (by kernel_rfl) (by decide))

theorem bulkK {H : Type} : ∃ K : Bulk H, K.BA = Rows.uptoBulkAll ∧ K.B = Rows.uptoBulk :=
  ⟨{ B := Rows.uptoBulk, BA := Rows.uptoBulkAll,
     one := fun d => by
       cases d with
       | lit l => cases l <;> simp [Rows.uptoBulk]
       | _ => simp [Rows.uptoBulk]
     str := fun bs => by simp [Rows.uptoBulk]
     slice := fun es sp => by simp only [Rows.uptoBulk]; omega
     agg := fun ps => by simp [Rows.uptoBulk]
     cons := fun d r => by simp [Rows.uptoBulkAll] }, rfl, rfl⟩

theorem backLaw (m : Int) (xs : List Dt) (h : Dt.hasL [fdsTy, stsTy, .bs, .i .i64] xs) (hb : Dt.bulkL xs ≤ 1048576) : wpF pr41 (c_isthmuslaw18_AskBack 8 9 11 12 13) (Dt.args xs (hG 0 m)).1 (Dt.args xs (hG 0 m)).2 (fun v _ => v = .b true) := by
  have hh := args_has (G := 0) (by decide) xs m
  obtain ⟨x, xs1, rfl, h1, ha⟩ := hasL_cons h
  obtain ⟨y, xs2, rfl, h2, hb2⟩ := hasL_cons ha
  obtain ⟨z, xs3, rfl, h3, hb3⟩ := hasL_cons hb2
  obtain ⟨u, xs4, rfl, h4, hb4⟩ := hasL_cons hb3
  obtain rfl := hasL_nil hb4
  obtain ⟨k, rfl, _⟩ := has_i h4
  obtain ⟨fs, q1, q2, q3⟩ := fields_ofB h1
  obtain ⟨ss, r1, r2⟩ := settings_ofB h2
  simp only [Dt.bulkL] at hb
  obtain ⟨p, c, ex, e1, e2, e3⟩ := q3 (hG 0 m)
  obtain ⟨q, c2, ex2, f1, f2, f3⟩ := r2 (x.arg (hG 0 m)).2
  obtain ⟨a, n, c3, ex3, l, g1, g2, g3⟩ := arg_bytes (h := (y.arg (x.arg (hG 0 m)).2).2) h3
  have hkz : Kept (y.arg (x.arg (hG 0 m)).2).2 (z.arg (y.arg (x.arg (hG 0 m)).2).2).2 := arg_get z _
  have hnl := rdB_len g3
  have hzl : n ≤ 1048576 := by
    rcases has_bs h3 with rfl | ⟨l', rfl, _⟩
    · have : (V.sl none 0 0 true) = .sl a n c3 ex3 := g1
      cases this; omega
    · have : (V.sl (some ((y.arg (x.arg (hG 0 m)).2).2.nx, 0)) l'.length l'.length false) = .sl a n c3 ex3 := g1
      cases this
      simp only [Dt.bulk] at hb
      omega
  have hargs : (Dt.args [x, y, z, .i .i64 k] (hG 0 m)) = ([.sl p fs.length c ex, .sl q ss.length c2 ex2, .sl a n c3 ex3, .i .i64 k], (z.arg (y.arg (x.arg (hG 0 m)).2).2).2) := by
    simp only [Dt.args]
    rw [e1, f1, g1]
    rfl
  rw [hargs] at hh ⊢
  have hsm : smallF fs := fun f hf => by have := q2 f hf; omega
  have e2' := rowsIn_kept e2 (f3.trans hkz)
  have h0 : 0 < (z.arg (y.arg (x.arg (hG 0 m)).2).2).2.nx := by
    have := hkz.1; have := f3.1; have := e3.1
    have h4 : (hG 0 m).nx = 4096 := rfl
    omega
  refine askBack_law (G := 0) (by kernel_rfl) ?_ ?_ (by kernel_rfl) (by kernel_rfl) (by kernel_rfl) (by kernel_rfl) hh h0 e2' (by omega) hsm (rowsIn_kept f2 hkz) (by omega) g3 (by omega)
  · intro h p q n c m c2 ex ex2 fs ss w1 w2 w3 w4 w5
    exact ask_runs (kq := 23) (kh := 24) (km := 25) (kc := 18) (kj := 26) (ko := 41) (ka := 42) (kt := 43) (kg := 44) (kr := 67) (kme := 45) (kpa := 46) (kpd := 47) (klow := 48) (kpay := 49) (kpr := 68) (kl := 69) (kw := 70)
      (by kernel_rfl) (by kernel_rfl) (by kernel_rfl) (by kernel_rfl) (by kernel_rfl) (by kernel_rfl) (by kernel_rfl) (by kernel_rfl) (by kernel_rfl) (by decide) (by kernel_rfl) (by kernel_rfl) (by kernel_rfl) (by kernel_rfl) (by kernel_rfl) (by kernel_rfl) (by kernel_rfl) (by kernel_rfl) (by kernel_rfl) (by kernel_rfl) (by kernel_rfl) w1 w2 w3 w4 (by omega)
  · intro h p n c ex0 s L va vc vd sv rest ss J w1 w2 w3 w4 w5 w6 w7 w8 w9 w10 w11 w12 w13
    exact read_runs (G := 0) (kLi := 17) (kL1 := 36) (kfi := 32) (kas := 33) (kli := 34) (kta := 35) (kc := 37) (kd := 19) (ka := 42) (kg := 44) (kt := 43) (kr := 67) (kf := 58) (kq := 23) (kpl := 76) (kb := 77) (ks := 78) (kcl := 79) (kpr := 80) (kn := 81) (kpd := 47)
      (by kernel_rfl) (by kernel_rfl) (by kernel_rfl) (by kernel_rfl) (by kernel_rfl) (by kernel_rfl) (by kernel_rfl) (by kernel_rfl) (by kernel_rfl) (by kernel_rfl) (by kernel_rfl) (by kernel_rfl) (by kernel_rfl) (by kernel_rfl) (by kernel_rfl) (by kernel_rfl) (by kernel_rfl) (by kernel_rfl) (by kernel_rfl) (by kernel_rfl) (by kernel_rfl) (by kernel_rfl) (by kernel_rfl)
      w1 w2 w3 w4 w5 w6 w7 w8 w9 w10 w11 w12 w13
end Go.Proofs.YtibmhhdgcbaofaaDoor.AskSeat5
