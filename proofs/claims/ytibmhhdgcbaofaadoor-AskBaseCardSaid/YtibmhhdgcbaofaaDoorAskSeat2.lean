/- What the functions of this seat answer: base64. -/
import Derived.Test.YtibmhhdgcbaofaaDoorAskSeat
import Derived.Test.YtibmhhdgcbaofaaDoorAsk7
namespace Go.Proofs.YtibmhhdgcbaofaaDoor.AskSeat2
open Am Go.Proofs.YtibmhhdgcbaofaaDoor.AskSeat
set_option maxRecDepth 100000
noncomputable def pr4 : Prog := pr3.add 64 xIndexByte
theorem ok4 : ProgOk Tryd.prog pr4 := ok3.add (af := c_stringslite_IndexByte 89) (by kernel_rfl) (indexByteS_ok (by kernel_rfl))
noncomputable def pr5 : Prog := pr4.add 38 xIndexByte
theorem ok5 : ProgOk Tryd.prog pr5 := ok4.add (af := c_strings_IndexByte 64) (by kernel_rfl) (indexByte_ok' (by kernel_rfl))
noncomputable def pr6 : Prog := pr5.add 18 gCode
theorem ok6 : ProgOk Tryd.prog pr6 := ok5.add (af := c_upgrade_Code) (by kernel_rfl) code_ok
noncomputable def pr7 : Prog := pr6.add 19 gDec
theorem ok7 : ProgOk Tryd.prog pr7 := ok6.add (af := c_upgrade_Decode 38) (by kernel_rfl) (decode_ok (by kernel_rfl))
noncomputable def pr8 : Prog := pr7.add 20 gDec
theorem ok8 : ProgOk Tryd.prog pr8 := ok7.add (af := c_isthmusref18_Decode) (by kernel_rfl) decode18_ok
noncomputable def pr9 : Prog := pr8.add 21 gCode
theorem ok9 : ProgOk Tryd.prog pr9 := ok8.add (af := c_isthmusref18_Code) (by kernel_rfl) code18_ok

theorem baseLaw (m : Int) (xs : List Dt) (h : Dt.hasL [.bs, .s] xs) : wpF pr9 (c_isthmuslaw18_AskBase 8 18 19 20 21) (Dt.args xs (hG 0 m)).1 (Dt.args xs (hG 0 m)).2 (fun v _ => v = .b true) := by
  have hh := args_has (G := 0) (by decide) xs m
  obtain ⟨x, xs1, rfl, h1, ha⟩ := hasL_cons h
  obtain ⟨y, xs2, rfl, h2, hb⟩ := hasL_cons ha
  obtain rfl := hasL_nil hb
  obtain ⟨k, rfl, _⟩ := has_s h2
  obtain ⟨a, n, c, ex, l, hl, hc, hr⟩ := arg_bytes (h := hG 0 m) h1
  have hargs : (Dt.args [x, .s k] (hG 0 m)) = ([.sl a n c ex, .s k], (x.arg (hG 0 m)).2) := by
    simp only [Dt.args]
    rw [hl]
    rfl
  rw [hargs] at hh ⊢
  exact askBase_law (by kernel_rfl) (by kernel_rfl) (by kernel_rfl) (by kernel_rfl) (by kernel_rfl) hc hr hh
end Go.Proofs.YtibmhhdgcbaofaaDoor.AskSeat2
