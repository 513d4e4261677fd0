/- The law ScriptLong answers true, whatever its arguments; the listed variables are tied to the program's text by the card. By the abstract machine of the texts Am. -/
import Derived.Test.YtjcchmmmbegamaaDoorCards
import Derived.Test.YtjcchmmmbegamaaDoorTie
import Derived.Test.YtjcchmmmbegamaaDoorScrSeat6
import Derived.ProofKit
import Derived.OpenShut
import Derived.ChangeOld
import Derived.Below
import Derived.Lay
import Derived.SevenTiedAt
import Derived.Deep.DeepHandedRow
namespace Go.Proofs.YtjcchmmmbegamaaDoor.ScriptLong
open Go.ChangeShapes Go.WideShapes Go.ChangeAt Go.RowKit
set_option linter.unusedVariables false
theorem own : ownKnob Tryd.prog.godebug = none := by kernel_rfl
theorem laidOut : laidOutB Tryd.prog = true := by kernel_rfl
set_option maxRecDepth 100000 in
theorem stays : (Tryd.f6.params.toList.all fun t => Tryd.prog.readableRec t && decide (t < Tryd.prog.types.size)) = true := by kernel_rfl
noncomputable def wargs : Array Value := #[]
theorem wshape (os : Os) : ((World.laidAll Tryd.prog os Rows.scriptLongRow.laid).forCall (fun _ _ => 0) ⟨#[], wargs, []⟩).Shaped Tryd.prog := World.shaped_of_ZipB (by kernel_rfl) (by kernel_rfl)
theorem wok (os : Os) : Input.okWideB Tryd.prog ((World.laidAll Tryd.prog os Rows.scriptLongRow.laid).forCall (fun _ _ => 0) ⟨#[], wargs, []⟩) 6 ⟨#[], wargs, []⟩ = true := by kernel_rfl
theorem wlaid (os : Os) : laidMetH Tryd.prog Rows.scriptLongRow.laid ((World.laidAll Tryd.prog os Rows.scriptLongRow.laid).forCall (fun _ _ => 0) ⟨#[], wargs, []⟩).memory := by
  rw [MakeChecks.laidMetH_plain _ _ _ (by kernel_rfl)]
  exact laidMet_laidAll _ (by kernel_rfl) (by kernel_rfl)
theorem wreads (os : Os) {H : Type} (enc : TypeId × Value → H) : ∃ places, DataW.whole enc Tryd.prog ((World.laidAll Tryd.prog os Rows.scriptLongRow.laid).forCall (fun _ _ => 0) ⟨#[], wargs, []⟩).memory Tryd.f6.params.toList Rows.scriptLongSpec.vars false wargs.toList 8 = some ([], [], places) :=
  ⟨[], by kernel_rfl⟩
theorem witness (os : Os) {H : Type} (enc : TypeId × Value → H) : ∃ (w : World) (tape : Tape) (i : Input), w.os = os ∧ (w.forCall tape i).Shaped Tryd.prog ∧ i.vars = [] ∧ Input.okWide Tryd.prog (w.forCall tape i) .any w.heap.size 6 i ∧
    (OpenSpec.ofChange Rows.scriptLongSpec).preRow enc Tryd.prog Tryd.f6 Rows.scriptLongRow.domain false Rows.scriptLongRow.laid (w.forCall tape i).memory i.args ∧ ({} : Assume).holds Tryd.prog (lone (Frame.enter Tryd.prog 6 i.args .normal) [] (w.forCall tape i)) := by
  obtain ⟨places, hx⟩ := wreads os enc
  refine ⟨World.laidAll Tryd.prog os Rows.scriptLongRow.laid, fun _ _ => 0, ⟨#[], wargs, []⟩, World.laidAll_os _ _ _, wshape os, (Input.okWide_of_okWideB (base := 0) (wok os)).1, (Input.okWide_of_okWideB (wok os)).2,
    OpenSpec.preRow_of_cond 8 hx (by kernel_rfl) (fun k hk => by cases hk; try kernel_rfl) (by kernel_rfl) (wlaid os), ?_⟩
  simp only [Assume.holds]
  exact ⟨by simp, by simp, fun _ => Modest.zero, by simp, by simp⟩
set_option maxRecDepth 100000 in
theorem lifted (os : Os) (started : os.Started) (H : Type) (enc : TypeId × Value → H) (F : Stop.Interp) :
    ReturnsInHanded {} Tryd.checked os 6 .any ((OpenSpec.ofChange Rows.scriptLongSpec).preRow enc Tryd.prog Tryd.f6 Rows.scriptLongRow.domain false Rows.scriptLongRow.laid) (((OpenSpec.ofChange Rows.scriptLongSpec).at F).post enc Tryd.prog Tryd.f6 false true false false) := by
  refine returnsInHanded_of_row (C := Tryd.checked) (s := (OpenSpec.ofChange Rows.scriptLongSpec)) own started (by kernel_rfl) Tryd.func6 (witness os enc) ?_
  intro W base args ds gs before hval0 hW _ hcond _ hL hsh _
  have hval : ∀ (j : Nat) t v, Tryd.f6.params[j]? = some t → args[j]? = some v → Value.okWide Tryd.prog W .any base t v := hval0
  have hW' := hW
  obtain ⟨p, q, hA0, hV, rfl, hfz, hnd⟩ := hW
  have hA : DataW.TrodAll enc Tryd.prog W 0 (fun _ => true) true Tryd.f6.params.toList args.toList ds p := hA0
  obtain ⟨rfl, rfl⟩ := trodVars_none hV
  have hlt : ∀ x ∈ p, x.block < W.heap.size := fun x hx => hW'.lt x (List.mem_append_left _ hx)
  obtain ⟨m, hm⟩ := Go.Proofs.YtjcchmmmbegamaaDoor.ScrSeat3.shaped W hsh
  have hl0 : laidMet Tryd.prog Rows.scriptLongRow.laid W := by rw [MakeChecks.laidMetH_plain _ _ _ (by kernel_rfl)] at hL; exact hL
  have htab : Go.Lib.TabIs Tryd.prog W "internal/strconv.uint64pow10" .u64 Go.Lib.pow10Tab := Go.Proofs.YtjcchmmmbegamaaDoor.ScrSeat4.tab (List.mem_of_getElem? (i := 2) (by kernel_rfl)) hl0
  obtain ⟨⟨te6, pe6, hca, hpa⟩, te7, pe7, hcb, hpb⟩ := Go.Proofs.YtjcchmmmbegamaaDoor.ScrSeat5.errs (nm := "*errors.errorString") (nm' := "*errors.errorString") (l := .string [105, 110, 118, 97, 108, 105, 100, 32, 115, 121, 110, 116, 97, 120]) (l' := .string [118, 97, 108, 117, 101, 32, 111, 117, 116, 32, 111, 102, 32, 114, 97, 110, 103, 101]) (ds := []) (ds' := []) (List.mem_of_getElem? (i := 5) (by kernel_rfl)) (List.mem_of_getElem? (i := 4) (by kernel_rfl)) hl0
  have walk := Am.law_callsGE (n := 8) (tys := []) Go.Proofs.YtjcchmmmbegamaaDoor.ScrSeat5.ok46 Go.Proofs.YtjcchmmmbegamaaDoor.ScrSeat3.glob Go.Proofs.YtjcchmmmbegamaaDoor.ScrV3.globT Go.Proofs.YtjcchmmmbegamaaDoor.ScrV3.glob6 Go.Proofs.YtjcchmmmbegamaaDoor.ScrV3.glob7 Go.Proofs.YtjcchmmmbegamaaDoor.ScrV3.nameT (f := 6) (af := (Am.c_isthmuslaw23_ScriptLong 11 13 23 7)) (by kernel_rfl) (by kernel_rfl) hm htab hca hcb hpa hpb (ts := Tryd.f6.params.toList) (by kernel_rfl) (fun j t v h1 h2 => hval j t v (by simp at h1) (by simpa using h2)) hA (Go.Proofs.YtjcchmmmbegamaaDoor.ScrSeat6.longLaw m te6 te7)
  have hlen : ds.length = 0 := Am.trodAll_len hA
  refine walk.mono fun e W' ⟨he, bel⟩ => ?_
  subst he
  have hs := Am.trodAll_stay laidOut bel stays hA hlt
  match ds, hlen with
  | [], _ => exact ⟨_, rfl, _, _, _, [], p, [], hW', trodAll_mk1 (shut_bool Tryd.underlying4 _), hs, rfl, bel.frame _, fun h => by cases h⟩

theorem said : Rows.ScriptLongSaid :=
  OpenClaim.holds_of_cond 6 Tryd.f6 rfl rfl rfl rfl rfl rfl rfl ⟨rfl, rfl, rfl, rfl, rfl⟩ rfl rfl rfl rfl rfl (by kernel_rfl) Tryd.func6 (by kernel_rfl)
    (of_decide_eq_true (by kernel_rfl)) (by unfold Func.isWrapper; first | (rw [if_pos (by decide +kernel)]; kernel_rfl) | (rw [if_neg (by decide +kernel)]; exact ⟨rfl, rfl⟩))
    (fun os started H enc _ F => by rw [OpenClaim.pre_eq_preRow]; exact lifted os started H enc F)
theorem plain (f : FuncId) (fn : Func) (hf : Tryd.pinned.checked.prog.funcNamed "isthmus/isthmuslaw23.ScriptLong" = some f) (hfn : Tryd.pinned.checked.prog.funcs[f]? = some fn) :
    true = Tryd.pinned.checked.prog.looks [] ∧ ∀ (j : Nat) t, fn.params[j]? = some t → Tryd.pinned.checked.prog.wantsStandIn t = false := by
  obtain rfl : f = 6 := Option.some.inj ((show Tryd.prog.funcNamed "isthmus/isthmuslaw23.ScriptLong" = some 6 by kernel_rfl).symm.trans hf) |>.symm
  obtain rfl : fn = Tryd.f6 := (Option.some.inj (Tryd.func6.symm.trans hfn)).symm
  refine ⟨by kernel_rfl, fun j t ht => ?_⟩
  have hall : (Tryd.f6.params.toList.all fun u => !Tryd.prog.wantsStandIn u) = true := by kernel_rfl
  have hm : t ∈ Tryd.f6.params.toList := by simpa using Array.mem_of_getElem? ht
  exact (show Tryd.prog.wantsStandIn t = false by simpa using List.all_eq_true.1 hall t hm)
theorem proved : Rows.ScriptLongCardSaid :=
  Claim7.holds_tied_plain_at .later [] _ _ _ _ said (fun _ h => by cases h) (by kernel_rfl) (fun _ h => by cases h) scriptLong_row_tie rfl ⟨rfl, rfl⟩ (by kernel_rfl) rfl plain (by kernel_rfl)
#print axioms proved
end Go.Proofs.YtjcchmmmbegamaaDoor.ScriptLong
