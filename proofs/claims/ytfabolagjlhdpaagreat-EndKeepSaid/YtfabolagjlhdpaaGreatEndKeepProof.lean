/- The law EndKeep answers true, whatever its arguments; no condition. By the abstract machine of the texts Am. -/
import Derived.Test.YtfabolagjlhdpaaGreatRows
import Derived.Test.YtfabolagjlhdpaaGreatEndKeepW
import Derived.ProofKit
import Derived.OpenShut
import Derived.ChangeOld
import Derived.Below
namespace Go.Proofs.YtfabolagjlhdpaaGreat.EndKeep
open Go.ChangeShapes Go.WideShapes Go.ChangeAt Go.RowKit
set_option linter.unusedVariables false
theorem own : ownKnob Tryz.prog.godebug = none := by kernel_rfl
theorem laidOut : laidOutB Tryz.prog = true := by kernel_rfl
set_option maxRecDepth 100000 in
theorem stays : (Tryz.f5.params.toList.all fun t => Tryz.prog.readableRec t && decide (t < Tryz.prog.types.size)) = true := by kernel_rfl
set_option maxRecDepth 100000 in
theorem lifted (os : Os) (started : os.Started) (H : Type) (enc : TypeId × Value → H) :
    ReturnsInHanded {} Tryz.checked os 5 .any (Rows.endKeepSpec.pre6 enc Tryz.prog Tryz.f5 Rows.endKeepRow.domain false) (Rows.endKeepSpec.post enc Tryz.prog Tryz.f5 false true false false) := by
  refine returnsInHanded_of_change (C := Tryz.checked) own started (by kernel_rfl) Tryz.func5
    (ChangeSpec.witness6 (enc := enc) (C := Tryz.checked) false ⟨#[], #[.int .i64 0, .int .i64 0, .int .i64 0, .slice none 0 0], []⟩ 8 (by kernel_rfl) (by kernel_rfl) (by kernel_rfl) (by kernel_rfl)) ?_
  intro W base args ds gs before hval0 hW hcnd _
  have hval : ∀ (j : Nat) t v, Tryz.f5.params[j]? = some t → args[j]? = some v → Value.okWide Tryz.prog W .any base t v := hval0
  have hW' := hW
  obtain ⟨p, q, hA0, hV, rfl, hfz, hnd⟩ := hW
  have hA : DataW.TrodAll enc Tryz.prog W 0 (fun _ => true) true Tryz.f5.params.toList args.toList ds p := hA0
  obtain ⟨rfl, rfl⟩ := trodVars_none hV
  have hlt : ∀ x ∈ p, x.block < W.heap.size := fun x hx => hW'.lt x (List.mem_append_left _ hx)
  have walk := Am.law_callsK (n := 8) (tys := [.i .i64, .i .i64, .i .i64, .sl 1 (.i .i64)]) Go.Proofs.YtfabolagjlhdpaaGreat.EndK.okU (f := 5) (by kernel_rfl) (ts := Tryz.f5.params.toList) (by kernel_rfl) (fun j t v h1 h2 => hval j t v (by simpa using h1) (by simpa using h2)) hA Go.Proofs.YtfabolagjlhdpaaGreat.EndK.keepLaw
  have hlen : ds.length = 4 := Am.trodAll_len hA
  refine walk.mono fun e W' ⟨he, bel⟩ => ?_
  subst he
  have hs := Am.trodAll_stay laidOut bel stays hA hlt
  match ds, hlen with
  | [d0, d1, d2, d3], _ => exact ⟨_, rfl, _, _, _, [], p, [], hW', trodAll_mk1 (shut_bool Tryz.underlying4 _), hs, rfl, bel.frame _, fun h => by cases h⟩

theorem over : Rows.endKeepRow.holds Tryz.pinned (OpenSpec.ofChange Rows.endKeepSpec) :=
  OpenClaim.holds_of_wide 5 Tryz.f5 rfl rfl rfl rfl rfl rfl rfl ⟨rfl, rfl, rfl, rfl, rfl⟩ rfl rfl rfl rfl rfl (by kernel_rfl) Tryz.func5 (by kernel_rfl)
    (of_decide_eq_true (by kernel_rfl)) (by unfold Func.isWrapper; first | (rw [if_pos (by decide +kernel)]; kernel_rfl) | (rw [if_neg (by decide +kernel)]; exact ⟨rfl, rfl⟩))
    (fun os started H enc _ => lifted os started H enc)

theorem proved : Rows.EndKeepSaid := over
#print axioms proved
end Go.Proofs.YtfabolagjlhdpaaGreat.EndKeep
