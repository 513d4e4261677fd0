/- The law FieldAll answers true, whatever its arguments; no condition. By the abstract machine of the texts Am. -/
import Derived.Test.YtmgkdkbmlfciaaaRows
import Derived.Test.YtmgkdkbmlfciaaaFieldSeat3
import Derived.ProofKit
import Derived.OpenShut
import Derived.ChangeOld
import Derived.Below
namespace Go.Proofs.Ytmgkdkbmlfciaaa.FieldAll
open Go.ChangeShapes Go.WideShapes Go.ChangeAt Go.RowKit
set_option linter.unusedVariables false
theorem own : ownKnob Try.prog.godebug = none := by kernel_rfl
theorem laidOut : laidOutB Try.prog = true := by kernel_rfl
set_option maxRecDepth 100000 in
theorem stays : (Try.f7.params.toList.all fun t => Try.prog.readableRec t && decide (t < Try.prog.types.size)) = true := by kernel_rfl
set_option maxRecDepth 100000 in
theorem lifted (os : Os) (started : os.Started) (H : Type) (enc : TypeId × Value → H) :
    ReturnsInHanded {} Try.checked os 7 .any (Rows.fieldAllSpec.pre6 enc Try.prog Try.f7 Rows.fieldAllRow.domain false) (Rows.fieldAllSpec.post enc Try.prog Try.f7 false true false false) := by
  refine returnsInHanded_of_change (C := Try.checked) own started (by kernel_rfl) Try.func7
    (ChangeSpec.witness6 (enc := enc) (C := Try.checked) false ⟨#[], #[.int .i64 0], []⟩ 8 (by kernel_rfl) (by kernel_rfl) (by kernel_rfl) (by kernel_rfl)) ?_
  intro W base args ds gs before hval0 hW hcnd _
  have hval : ∀ (j : Nat) t v, Try.f7.params[j]? = some t → args[j]? = some v → Value.okWide Try.prog W .any base t v := hval0
  have hW' := hW
  obtain ⟨p, q, hA0, hV, rfl, hfz, hnd⟩ := hW
  have hA : DataW.TrodAll enc Try.prog W 0 (fun _ => true) true Try.f7.params.toList args.toList ds p := hA0
  obtain ⟨rfl, rfl⟩ := trodVars_none hV
  have hlt : ∀ x ∈ p, x.block < W.heap.size := fun x hx => hW'.lt x (List.mem_append_left _ hx)
  have walk := Am.law_calls (n := 8) (tys := [.i .i64]) Go.Proofs.Ytmgkdkbmlfciaaa.FieldSeat3.ok13 (f := 7) (af := Am.c_isthmuslaw3_FieldAll 10 27 24) (by kernel_rfl) (by kernel_rfl) (ts := Try.f7.params.toList) (by kernel_rfl) (fun j t v h1 h2 => hval j t v (by simpa using h1) (by simpa using h2)) hA Go.Proofs.Ytmgkdkbmlfciaaa.FieldSeat3.allLaw
  have hlen : ds.length = 1 := Am.trodAll_len hA
  refine walk.mono fun e W' ⟨he, bel⟩ => ?_
  subst he
  have hs := Am.trodAll_stay laidOut bel stays hA hlt
  match ds, hlen with
  | [d0], _ => exact ⟨_, rfl, _, _, _, [], p, [], hW', trodAll_mk1 (shut_bool Try.underlying4 _), hs, rfl, bel.frame _, fun h => by cases h⟩

theorem over : Rows.fieldAllRow.holds Try.pinned (OpenSpec.ofChange Rows.fieldAllSpec) :=
  OpenClaim.holds_of_wide 7 Try.f7 rfl rfl rfl rfl rfl rfl rfl ⟨rfl, rfl, rfl, rfl, rfl⟩ rfl rfl rfl rfl rfl (by kernel_rfl) Try.func7 (by kernel_rfl)
    (of_decide_eq_true (by kernel_rfl)) (by unfold Func.isWrapper; first | (rw [if_pos (by decide +kernel)]; kernel_rfl) | (rw [if_neg (by decide +kernel)]; exact ⟨rfl, rfl⟩))
    (fun os started H enc _ => lifted os started H enc)

theorem proved : Rows.FieldAllSaid := over
#print axioms proved
end Go.Proofs.Ytmgkdkbmlfciaaa.FieldAll
