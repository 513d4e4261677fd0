/- endpoint: a new end. -/
import Derived.Test.YtkhnielggkcbiaaGreatDoorEnd2
import Derived.Test.YtkhnielggkcbiaaGreatDoorAmMake
namespace Am
set_option linter.all false
set_option maxRecDepth 20000
set_option maxHeartbeats 8000000
open Go (IntKind)
variable {pr : Prog}
theorem wpF_mono' {af : AFunc} {args : List V} {h : H} {K K' : V → H → Prop} (hw : wpF pr af args h K) (hk : ∀ v h', K v h' → K' v h') : wpF pr af args h K' := by
  refine ⟨hw.1, wpA_mono hw.2 ?_⟩
  intro e t h' hr
  unfold wpRes at hr ⊢
  cases e <;> first | exact hr | (obtain ⟨vs, h2, h3⟩ := hr; exact ⟨vs, h2, hk _ _ h3⟩)
end Am
