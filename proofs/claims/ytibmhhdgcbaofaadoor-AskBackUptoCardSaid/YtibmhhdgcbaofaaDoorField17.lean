/- What the functions of the layer 'field' answer: cutting, the static table. -/
import Derived.Test.YtibmhhdgcbaofaaDoorFieldFd
import Derived.Test.YtibmhhdgcbaofaaDoorCodesAll
namespace Am
set_option linter.unusedVariables false
set_option linter.unusedSimpArgs false
set_option maxRecDepth 20000
set_option maxHeartbeats 8000000
variable {pr : Prog}

theorem fIdx_lt (l : List UInt8) (b : UInt8) (h : 0 ≤ fIdx l b) : fIdx l b < l.length := by
  unfold fIdx at h ⊢
  cases hi : l.findIdx? (· == b) with
  | none => rw [hi] at h; simp at h
  | some i =>
    have := (List.findIdx?_eq_some_iff_getElem.1 hi).1
    show ((i : Int)) < _
    omega
end Am
