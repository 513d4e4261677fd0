/- The law FieldStatic answers true, whatever its arguments; no condition. By the abstract machine of the texts Am. -/
import Derived.Test.YtmgkdkbmlfciaaaRows
import Derived.Test.YtmgkdkbmlfciaaaFieldSeat3
import Derived.ProofKit
import Derived.OpenShut
import Derived.ChangeOld
import Derived.Below
namespace Go.Proofs.Ytmgkdkbmlfciaaa.FieldStatic
open Go.ChangeShapes Go.WideShapes Go.ChangeAt Go.RowKit
set_option linter.unusedVariables false
theorem own : ownKnob Try.prog.godebug = none := by kernel_rfl
theorem laidOut : laidOutB Try.prog = true := by kernel_rfl
set_option maxRecDepth 100000 in
theorem stays : (Try.f6.params.toList.all fun t => Try.prog.readableRec t && decide (t < Try.prog.types.size)) = true := by kernel_rfl
set_option maxRecDepth 100000 in
theorem lifted (os : Os) (started : os.Started) (H : Type) (enc : TypeId × Value → H) :
    ReturnsInHanded {} Try.checked os 6 .any (Rows.fieldStaticSpec.pre6 enc Try.prog Try.f6 Rows.fieldStaticRow.domain false) (Rows.fieldStaticSpec.post enc Try.prog Try.f6 false true false false) := by
  refine returnsInHanded_of_change (C := Try.checked) own started (by kernel_rfl) Try.func6
    (ChangeSpec.witness6 (enc := enc) (C := Try.checked) false ⟨#[], #[.int .i64 0, .string ByteArray.empty, .string ByteArray.empty], []⟩ 8 (by kernel_rfl) (by kernel_rfl) (by kernel_rfl) (by kernel_rfl)) ?_
  intro W base args ds gs before hval0 hW hcnd _
  have hval : ∀ (j : Nat) t v, Try.f6.params[j]? = some t → args[j]? = some v → Value.okWide Try.prog W .any base t v := hval0
  have hW' := hW
  obtain ⟨p, q, hA0, hV, rfl, hfz, hnd⟩ := hW
  have hA : DataW.TrodAll enc Try.prog W 0 (fun _ => true) true Try.f6.params.toList args.toList ds p := hA0
  obtain ⟨rfl, rfl⟩ := trodVars_none hV
  have hlt : ∀ x ∈ p, x.block < W.heap.size := fun x hx => hW'.lt x (List.mem_append_left _ hx)
  have walk := Am.law_calls (n := 8) (tys := [.i .i64, .s, .s]) Go.Proofs.Ytmgkdkbmlfciaaa.FieldSeat3.ok13 (f := 6) (af := Am.c_isthmuslaw3_FieldStatic 10 23 24 25 26) (by kernel_rfl) (by kernel_rfl) (ts := Try.f6.params.toList) (by kernel_rfl) (fun j t v h1 h2 => hval j t v (by simpa using h1) (by simpa using h2)) hA Go.Proofs.Ytmgkdkbmlfciaaa.FieldSeat3.staticLaw
  have hlen : ds.length = 3 := Am.trodAll_len hA
  refine walk.mono fun e W' ⟨he, bel⟩ => ?_
  subst he
  have hs := Am.trodAll_stay laidOut bel stays hA hlt
  match ds, hlen with
  | [d0, d1, d2], _ => exact ⟨_, rfl, _, _, _, [], p, [], hW', trodAll_mk1 (shut_bool Try.underlying4 _), hs, rfl, bel.frame _, fun h => by cases h⟩

theorem over : Rows.fieldStaticRow.holds Try.pinned (OpenSpec.ofChange Rows.fieldStaticSpec) :=
  OpenClaim.holds_of_wide 6 Try.f6 rfl rfl rfl rfl rfl rfl rfl ⟨rfl, rfl, rfl, rfl, rfl⟩ rfl rfl rfl rfl rfl (by kernel_rfl) Try.func6 (by kernel_rfl)
    (of_decide_eq_true (by kernel_rfl)) (by unfold Func.isWrapper; first | (rw [if_pos (by decide +kernel)]; kernel_rfl) | (rw [if_neg (by decide +kernel)]; exact ⟨rfl, rfl⟩))
    (fun os started H enc _ => lifted os started H enc)

theorem proved : Rows.FieldStaticSaid := over
#print axioms proved
end Go.Proofs.Ytmgkdkbmlfciaaa.FieldStatic
