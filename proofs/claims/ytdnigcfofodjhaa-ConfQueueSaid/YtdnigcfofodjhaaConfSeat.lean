/- What the functions of this seat answer, by the texts on the layer 'conf'. -/
import Derived.Test.YtdnigcfofodjhaaRows
import Derived.Test.YtdnigcfofodjhaaAmLaw
import Derived.Test.YtdnigcfofodjhaaAmExt
import Derived.Test.YtdnigcfofodjhaaConfMay
import Derived.Test.YtdnigcfofodjhaaConfBack
import Derived.ProofKit
namespace Go.Proofs.Ytdnigcfofodjhaa.ConfSeat
open Am
set_option maxRecDepth 100000
theorem begunX : ExtFor Try.prog 7 (xConst (.b true)) := closed_of_yes (progOf_ok Try.prog) rfl (n := 3000) (by kernel_rfl)
noncomputable def pr0 : Prog := (progOf Try.prog).add 7 (xConst (.b true))
theorem ok0 : ProgOk Try.prog pr0 := (progOf_ok Try.prog).addFor begunX
noncomputable def pr1 : Prog := pr0.add 27 gWithin
theorem ok1 : ProgOk Try.prog pr1 := ok0.add (af := c_conf_within) (by kernel_rfl) within_ok
noncomputable def pr2 : Prog := pr1.add 28 gWithin
theorem ok2 : ProgOk Try.prog pr2 := ok1.add (af := c_isthmusref12_within) (by kernel_rfl) within12_ok
noncomputable def pr3 : Prog := pr2.add 10 gMay
theorem ok3 : ProgOk Try.prog pr3 := ok2.add (af := c_conf_May 27) (by kernel_rfl) (may_ok (by kernel_rfl))
noncomputable def pr4 : Prog := pr3.add 11 gMay
theorem ok4 : ProgOk Try.prog pr4 := ok3.add (af := c_isthmusref12_May 28) (by kernel_rfl) (may12_ok (by kernel_rfl))
noncomputable def pr5 : Prog := pr4.add 8 gList
theorem ok5 : ProgOk Try.prog pr5 := ok4.add (af := c_conf_List 10) (by kernel_rfl) (list_ok (by kernel_rfl))
noncomputable def pr6 : Prog := pr5.add 9 gList
theorem ok6 : ProgOk Try.prog pr6 := ok5.add (af := c_isthmusref12_List 11) (by kernel_rfl) (list12_ok (by kernel_rfl))

noncomputable def pr7 : Prog := pr6.add 29 gApply1
theorem ok7 : ProgOk Try.prog pr7 := ok6.add (af := c_conf_apply 27) (by kernel_rfl) (apply1_ok (by kernel_rfl))
noncomputable def pr8 : Prog := pr7.add 12 gApply
theorem ok8 : ProgOk Try.prog pr8 := ok7.add (af := c_conf_Apply 29) (by kernel_rfl) (apply_ok (by kernel_rfl))
noncomputable def pr9 : Prog := pr8.add 13 gEq
theorem ok9 : ProgOk Try.prog pr9 := ok8.add (af := c_isthmuslaw12_eq) (by kernel_rfl) eq_ok

theorem has_conf {x : Dt} (h : Dt.has (.st [.i .i64, .i .i64, .i .i64, .i .i64, .i .i64]) x) : ∃ c0 c1 c2 c3 c4, x = .st [.i .i64 c0, .i .i64 c1, .i .i64 c2, .i .i64 c3, .i .i64 c4] := by
  obtain ⟨cs, rfl, ha⟩ := has_st h
  obtain ⟨d0, cs0, rfl, e0, hb⟩ := hasL_cons ha
  obtain ⟨d1, cs1, rfl, e1, hc⟩ := hasL_cons hb
  obtain ⟨d2, cs2, rfl, e2, hd⟩ := hasL_cons hc
  obtain ⟨d3, cs3, rfl, e3, he⟩ := hasL_cons hd
  obtain ⟨d4, cs4, rfl, e4, hf⟩ := hasL_cons he
  obtain rfl := hasL_nil hf
  obtain ⟨c0, rfl, _⟩ := has_i e0
  obtain ⟨c1, rfl, _⟩ := has_i e1
  obtain ⟨c2, rfl, _⟩ := has_i e2
  obtain ⟨c3, rfl, _⟩ := has_i e3
  obtain ⟨c4, rfl, _⟩ := has_i e4
  exact ⟨_, _, _, _, _, rfl⟩

theorem mayLaw (xs : List Dt) (h : Dt.hasL [.i .i64, .st [.i .i64, .i .i64, .i .i64, .i .i64, .i .i64]] xs) :
    wpF pr6 (c_isthmuslaw12_ConfMay 7 8 9 10 11) (Dt.args xs h0).1 (Dt.args xs h0).2 (fun v _ => v = .b true) := by
  obtain ⟨x, xs1, rfl, h1, ha⟩ := hasL_cons h
  obtain ⟨y, xs2, rfl, h2, hb⟩ := hasL_cons ha
  obtain rfl := hasL_nil hb
  obtain ⟨role, rfl, _⟩ := has_i h1
  obtain ⟨c0, c1, c2, c3, c4, rfl⟩ := has_conf h2
  exact confMay_law (by kernel_rfl) (by kernel_rfl) (by kernel_rfl) (by kernel_rfl) (by kernel_rfl) role c0 c1 c2 c3 c4 h0
theorem backLaw (xs : List Dt) (h : Dt.hasL [.st [.i .i64, .i .i64, .i .i64, .i .i64, .i .i64], .st [.i .i64, .i .i64, .i .i64, .i .i64, .i .i64]] xs) :
    wpF pr9 (c_isthmuslaw12_ConfBack 7 8 12 13) (Dt.args xs h0).1 (Dt.args xs h0).2 (fun v _ => v = .b true) := by
  obtain ⟨x, xs1, rfl, h1, ha⟩ := hasL_cons h
  obtain ⟨y, xs2, rfl, h2, hb⟩ := hasL_cons ha
  obtain rfl := hasL_nil hb
  obtain ⟨c0, c1, c2, c3, c4, rfl⟩ := has_conf h1
  obtain ⟨d0, d1, d2, d3, d4, rfl⟩ := has_conf h2
  exact confBack_law (by kernel_rfl) (by kernel_rfl) (by kernel_rfl) (by kernel_rfl) c0 c1 c2 c3 c4 d0 d1 d2 d3 d4 h0
end Go.Proofs.Ytdnigcfofodjhaa.ConfSeat
