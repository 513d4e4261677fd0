/- The law ScriptLong at its seat. -/
import Derived.Test.YtjcchmmmbegamaaDoorScrSeat5
import Derived.Test.YtjcchmmmbegamaaDoorScrY
namespace Go.Proofs.YtjcchmmmbegamaaDoor.ScrSeat6
open Am Go.Proofs ScrSeat ScrSeat2 ScrSeat4 ScrV3 ScrSeat5
set_option maxRecDepth 100000
theorem cnt : StepsCnt pr46 (hasE 1 6 7) 39 := fun h0 lb cb sb nt q a b p1 p2 t h18 h1 h2 h3 h4 hs hsb hcb hlb hne he h40 hc4 hl4 o =>
  steps1_runs (hasE_ok (by decide) (by decide) (by decide)) (k := 33) (kT1 := 40) (kC := 47) (kl := 48) (kS := 57) (kg := 67) (ke := 78) (kc := 79) (ki := 80) (kfo := 24) (kH := 58) (kse := 59) (kr := 60) (kF := 15) (kw := 69) (kT := 18)
    (by kernel_rfl) (by kernel_rfl) (by kernel_rfl) (by kernel_rfl) (by kernel_rfl) (by kernel_rfl) (by kernel_rfl) (by kernel_rfl) (by kernel_rfl) (by kernel_rfl) (by kernel_rfl) (by kernel_rfl) (by kernel_rfl) (by kernel_rfl) (by kernel_rfl) (by kernel_rfl) (by kernel_rfl) (by kernel_rfl) (by kernel_rfl) (by kernel_rfl) (by kernel_rfl) (by kernel_rfl) (by kernel_rfl) (by kernel_rfl) (by kernel_rfl) h18 h1 h2 h3 h4 hs hsb hcb hlb hne he h40 hc4 hl4 o
theorem big : StepsBig pr46 39 := fun h0 lb cb sb i L0 s hs hsb hbig hcb hlb o =>
  steps1_big (ko := 33) (kT1 := 40) (by kernel_rfl) (by kernel_rfl) hs hsb hbig hcb hlb o
theorem readsBig : ReadsBig pr46 13 := reads_big (ko := 33) (kR := 34) (by kernel_rfl) (by kernel_rfl)
theorem longLaw (m : Int) (t6 t7 : Nat) (v6 v7 : V) (xs : List Dt) (h : Dt.hasL [] xs) : wpF pr46 (c_isthmuslaw23_ScriptLong 11 13 23 7) (Dt.args xs (hGE 0 m 1 6 7 (.ifc t6 v6) (.ifc t7 v7))).1 (Dt.args xs (hGE 0 m 1 6 7 (.ifc t6 v6) (.ifc t7 v7))).2 (fun v _ => v = .b true) := by
  obtain rfl := hasL_nil h
  have hE := hGE_has m t6 t7 v6 v7
  have hT := hGE_tab m t6 t7 v6 v7
  have hnx : (hGE 0 m 1 6 7 (.ifc t6 v6) (.ifc t7 v7)).nx = 4098 := rfl
  simp only [Dt.args]
  generalize hGE 0 m 1 6 7 (.ifc t6 v6) (.ifc t7 v7) = h0 at *
  obtain ⟨w1, w2⟩ := hasT_some hT
  exact long_law (E := hasE 1 6 7) (Y := zU 1) (by kernel_rfl) (by kernel_rfl) reads readsBig (by kernel_rfl) (by kernel_rfl) cnt big (fun g hg n => zU_all (hasT_of (by rw [hg.2 1 w2]; exact w1) (Nat.lt_of_lt_of_le w2 hg.1)) n) (fun g hg => hasE_ok (by decide) (by decide) (by decide) h0 g hg.1 (fun i hi => hg.2 i (by omega)) hE) (by omega)
end Go.Proofs.YtjcchmmmbegamaaDoor.ScrSeat6
