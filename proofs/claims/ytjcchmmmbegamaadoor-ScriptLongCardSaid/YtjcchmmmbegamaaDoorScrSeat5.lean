/- The law ScriptBack at its seat. -/
import Derived.Test.YtjcchmmmbegamaaDoorScrSeat4
import Derived.Test.YtjcchmmmbegamaaDoorScrV3
import Derived.Test.YtjcchmmmbegamaaDoorScrU
namespace Go.Proofs.YtjcchmmmbegamaaDoor.ScrSeat5
open Am Go.Proofs ScrSeat ScrSeat2 ScrSeat4 ScrV3
set_option maxRecDepth 100000
noncomputable def pr39 : Prog := pr38.add 79 gCnt
theorem ok39 : ProgOk Tryd.prog pr39 := ok38.add (af := c_strings_Count 88 90 80) (by kernel_rfl) (count_okS (by kernel_rfl))
noncomputable def pr40 : Prog := pr39.add 66 gIx1
theorem ok40 : ProgOk Tryd.prog pr40 := ok39.add (af := c_stringslite_Index 63 75 76 77) (by kernel_rfl) (ix1_ok (by kernel_rfl))
noncomputable def pr41 : Prog := pr40.add 80 gIx1
theorem ok41 : ProgOk Tryd.prog pr41 := ok40.add (af := c_strings_Index 66) (by kernel_rfl) (index_okS (by kernel_rfl))
noncomputable def pr42 : Prog := pr41.add 56 gCutS
theorem ok42 : ProgOk Tryd.prog pr42 := ok41.add (af := c_stringslite_Cut 66) (by kernel_rfl) (cutS_ok (by kernel_rfl))
noncomputable def pr43 : Prog := pr42.add 47 gCutS
theorem ok43 : ProgOk Tryd.prog pr43 := ok42.add (af := c_strings_Cut 56) (by kernel_rfl) (cut_ok (by kernel_rfl))
noncomputable def pr44 : Prog := pr43.add 68 gSuf
theorem ok44 : ProgOk Tryd.prog pr44 := ok43.add (af := c_stringslite_HasSuffix) (by kernel_rfl) suffixS_ok
noncomputable def pr45 : Prog := pr44.add 58 gSuf
theorem ok45 : ProgOk Tryd.prog pr45 := ok44.add (af := c_strings_HasSuffix 68) (by kernel_rfl) (suffix_ok (by kernel_rfl))
noncomputable def pr46 : Prog := pr45.add 69 (gWhole (hasE 1 6 7))
theorem ok46 : ProgOk Tryd.prog pr46 := ok45.addFor whole_ok
theorem reads : ReadsAll pr46 (hasE 1 6 7) 13 := fun h s hs he h4 =>
  read_runs (hasE_ok (by decide) (by decide) (by decide)) (ko := 33) (kC := 47) (kR := 34) (kl := 48) (kS := 57) (kg := 67) (ke := 78) (kc := 79) (ki := 80) (kfo := 24) (kH := 58) (kse := 59) (kr := 60) (kF := 15) (kw := 69) (kT := 18)
    (by kernel_rfl) (by kernel_rfl) (by kernel_rfl) (by kernel_rfl) (by kernel_rfl) (by kernel_rfl) (by kernel_rfl) (by kernel_rfl) (by kernel_rfl) (by kernel_rfl) (by kernel_rfl) (by kernel_rfl) (by kernel_rfl) (by kernel_rfl) (by kernel_rfl) (by kernel_rfl) (by kernel_rfl) (by kernel_rfl) (by kernel_rfl) (by kernel_rfl) (by kernel_rfl) (by kernel_rfl) (by kernel_rfl) (by kernel_rfl) (by kernel_rfl) hs he h4
theorem hGE_has (m : Int) (t6 t7 : Nat) (v6 v7 : V) : hasE 1 6 7 (hGE 0 m 1 6 7 (.ifc t6 v6) (.ifc t7 v7)) = true := by
  unfold hasE
  rw [hasT_of (T := 1) (by simp [hGE, H.get_set]) (by show 1 < 4098; decide), hasIf_of (G := 6) (t := t6) (v := v6) (by simp [hGE, H.get_set]) (by show 6 < 4098; decide), hasIf_of (G := 7) (t := t7) (v := v7) (by simp [hGE, H.get_set]) (by show 7 < 4098; decide)]
  rfl
theorem hGE_tab (m : Int) (t6 t7 : Nat) (v6 v7 : V) : hasT 1 (hGE 0 m 1 6 7 (.ifc t6 v6) (.ifc t7 v7)) = true := hasT_of (T := 1) (by simp [hGE, H.get_set]) (by show 1 < 4098; decide)
theorem errs {laid : List (String × Go.DataW Unit)} {W : World} {nm nm' : String} {l l' : Go.Lit} {ds ds' : List (Go.DataW Unit)} (hm : ("strconv.ErrSyntax", Go.DataW.iface nm (.ptr (.agg (.lit l :: ds)))) ∈ laid) (hm' : ("strconv.ErrRange", Go.DataW.iface nm' (.ptr (.agg (.lit l' :: ds')))) ∈ laid) (h : laidMet Tryd.prog laid W) :
    (∃ te pe, W.cell? ⟨6, 0, none⟩ = some (.iface te pe) ∧ PtrV pe) ∧ ∃ te pe, W.cell? ⟨7, 0, none⟩ = some (.iface te pe) ∧ PtrV pe := by
  obtain ⟨ps, hl, _⟩ := h
  exact ⟨iface_at (g := 6) (by kernel_rfl) rfl ⟨_, Tryd.underlying68⟩ hl hm, iface_at (g := 7) (by kernel_rfl) rfl ⟨_, Tryd.underlying68⟩ hl hm'⟩
end Go.Proofs.YtjcchmmmbegamaaDoor.ScrSeat5
