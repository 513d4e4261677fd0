/- The law ConfQueue answers true, whatever its arguments; no condition. By the abstract machine of the texts Am. -/
import Derived.Test.YtdnigcfofodjhaaRows
import Derived.Test.YtdnigcfofodjhaaConfSeat2
import Derived.ProofKit
import Derived.OpenShut
import Derived.ChangeOld
import Derived.Below
namespace Go.Proofs.Ytdnigcfofodjhaa.ConfQueue
open Go.ChangeShapes Go.WideShapes Go.ChangeAt Go.RowKit
set_option linter.unusedVariables false
theorem own : ownKnob Try.prog.godebug = none := by kernel_rfl
theorem laidOut : laidOutB Try.prog = true := by kernel_rfl
set_option maxRecDepth 100000 in
theorem stays : (Try.f5.params.toList.all fun t => Try.prog.readableRec t && decide (t < Try.prog.types.size)) = true := by kernel_rfl
set_option maxRecDepth 100000 in
theorem lifted (os : Os) (started : os.Started) (H : Type) (enc : TypeId × Value → H) :
    ReturnsInHanded {} Try.checked os 5 .any (Rows.confQueueSpec.pre6 enc Try.prog Try.f5 Rows.confQueueRow.domain false) (Rows.confQueueSpec.post enc Try.prog Try.f5 false true false false) := by
  refine returnsInHanded_of_change (C := Try.checked) own started (by kernel_rfl) Try.func5
    (ChangeSpec.witness6 (enc := enc) (C := Try.checked) false ⟨#[], #[.agg #[.int .i64 0, .int .i64 0, .int .i64 0, .int .i64 0, .int .i64 0], .slice none 0 0], []⟩ 8 (by kernel_rfl) (by kernel_rfl) (by kernel_rfl) (by kernel_rfl)) ?_
  intro W base args ds gs before hval0 hW hcnd _
  have hval : ∀ (j : Nat) t v, Try.f5.params[j]? = some t → args[j]? = some v → Value.okWide Try.prog W .any base t v := hval0
  have hW' := hW
  obtain ⟨p, q, hA0, hV, rfl, hfz, hnd⟩ := hW
  have hA : DataW.TrodAll enc Try.prog W 0 (fun _ => true) true Try.f5.params.toList args.toList ds p := hA0
  obtain ⟨rfl, rfl⟩ := trodVars_none hV
  have hlt : ∀ x ∈ p, x.block < W.heap.size := fun x hx => hW'.lt x (List.mem_append_left _ hx)
  have walk := Am.law_calls (n := 8) (tys := [.st [.i .i64, .i .i64, .i .i64, .i .i64, .i .i64], .sl 6 Go.Proofs.Ytdnigcfofodjhaa.ConfSeat2.opTy]) Go.Proofs.Ytdnigcfofodjhaa.ConfSeat2.ok14 (f := 5) (af := Am.c_isthmuslaw12_ConfQueue 7 14 15 16 17 18 19 20 21 22 13 23 24) (by kernel_rfl) (by kernel_rfl) (ts := Try.f5.params.toList) (by kernel_rfl) (fun j t v h1 h2 => hval j t v (by simpa using h1) (by simpa using h2)) hA Go.Proofs.Ytdnigcfofodjhaa.ConfSeat2.queueLaw
  have hlen : ds.length = 2 := Am.trodAll_len hA
  refine walk.mono fun e W' ⟨he, bel⟩ => ?_
  subst he
  have hs := Am.trodAll_stay laidOut bel stays hA hlt
  match ds, hlen with
  | [d0, d1], _ => exact ⟨_, rfl, _, _, _, [], p, [], hW', trodAll_mk1 (shut_bool Try.underlying4 _), hs, rfl, bel.frame _, fun h => by cases h⟩

theorem over : Rows.confQueueRow.holds Try.pinned (OpenSpec.ofChange Rows.confQueueSpec) :=
  OpenClaim.holds_of_wide 5 Try.f5 rfl rfl rfl rfl rfl rfl rfl ⟨rfl, rfl, rfl, rfl, rfl⟩ rfl rfl rfl rfl rfl (by kernel_rfl) Try.func5 (by kernel_rfl)
    (of_decide_eq_true (by kernel_rfl)) (by unfold Func.isWrapper; first | (rw [if_pos (by decide +kernel)]; kernel_rfl) | (rw [if_neg (by decide +kernel)]; exact ⟨rfl, rfl⟩))
    (fun os started H enc _ => lifted os started H enc)

theorem proved : Rows.ConfQueueSaid := over
#print axioms proved
end Go.Proofs.Ytdnigcfofodjhaa.ConfQueue
