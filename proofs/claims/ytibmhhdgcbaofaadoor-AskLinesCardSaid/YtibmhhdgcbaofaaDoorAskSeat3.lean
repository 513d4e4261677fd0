/- What the functions of this seat answer: lines. -/
import Derived.Test.YtibmhhdgcbaofaaDoorAskSeat
import Derived.Test.YtibmhhdgcbaofaaDoorAskL3
namespace Go.Proofs.YtibmhhdgcbaofaaDoor.AskSeat3
open Am Go.Proofs.YtibmhhdgcbaofaaDoor.AskSeat
set_option maxRecDepth 100000
noncomputable def pr4 : Prog := pr1.add 63 (gCutA 0)
theorem ok4 : ProgOk Tryd.prog pr4 := ok1.add (af := c_stringslite_Cut 88) (by kernel_rfl) (cutAS_ok (by kernel_rfl))
noncomputable def pr5 : Prog := pr4.add 37 (gCutA 0)
theorem ok5 : ProgOk Tryd.prog pr5 := ok4.add (af := c_strings_Cut 63) (by kernel_rfl) (cutA_ok (by kernel_rfl))
noncomputable def pr6 : Prog := pr5.add 17 (gLines 36)
theorem ok6 : ProgOk Tryd.prog pr6 := ok5.add (af := c_upgrade_Lines 36) (by kernel_rfl) linesP_ok
noncomputable def pr7 : Prog := pr6.add 16 gLines18
theorem ok7 : ProgOk Tryd.prog pr7 := ok6.add (af := c_isthmusref18_Lines) (by kernel_rfl) lines18_ok

theorem linesLaw (m : Int) (xs : List Dt) (h : Dt.hasL [.bs, .i .i64] xs) : wpF pr7 (c_isthmuslaw18_AskLines 8 16 17) (Dt.args xs (hG 0 m)).1 (Dt.args xs (hG 0 m)).2 (fun v _ => v = .b true) := by
  have hh := args_has (G := 0) (by decide) xs m
  obtain ⟨x, xs1, rfl, h1, ha⟩ := hasL_cons h
  obtain ⟨y, xs2, rfl, h2, hb⟩ := hasL_cons ha
  obtain rfl := hasL_nil hb
  obtain ⟨k, rfl, _⟩ := has_i h2
  obtain ⟨a, n, c, ex, l, hl, hc, hr⟩ := arg_bytes (h := hG 0 m) h1
  have hnx := (arg_get x (hG 0 m)).1
  have hargs : (Dt.args [x, .i .i64 k] (hG 0 m)) = ([.sl a n c ex, .i .i64 k], (x.arg (hG 0 m)).2) := by
    simp only [Dt.args]
    rw [hl]
    rfl
  rw [hargs] at hh ⊢
  exact askLines_law (k1 := 36) (kc := 37) (by kernel_rfl) (by kernel_rfl) (by kernel_rfl) (by kernel_rfl) (by kernel_rfl) (by kernel_rfl) (by decide) hc hr hh hnx
end Go.Proofs.YtibmhhdgcbaofaaDoor.AskSeat3
