/- base64 for URLs, read by the document. -/
import Derived.Test.YtibmhhdgcbaofaaDoorAsk3
import Derived.Test.YtibmhhdgcbaofaaDoorAsk4
namespace Am
set_option linter.unusedVariables false
set_option linter.unusedSimpArgs false
set_option maxRecDepth 20000
set_option maxHeartbeats 4000000
variable {pr : Prog}

theorem fIdx_self : ((List.range 64).all fun j => fIdx letL (let6 j) == (j : Int)) = true := by decide +kernel
theorem fIdx_at {c : UInt8} {j : Nat} (hj : j < 64) : (letL[j]? = some c) ↔ fIdx letL c = j := by
  have hl : letL.length = 64 := rfl
  constructor
  · intro h
    rw [let6_at hj] at h
    cases h
    have := List.all_eq_true.1 fIdx_self j (List.mem_range.2 hj)
    simpa using this
  · intro h
    unfold fIdx at h
    cases hf : letL.findIdx? (fun b => b == c) with
    | none => rw [hf] at h; simp at h <;> omega
    | some i =>
      rw [hf] at h
      simp only at h
      have hij : i = j := by omega
      subst hij
      obtain ⟨hi, h1, _⟩ := List.findIdx?_eq_some_iff_getElem.1 hf
      rw [List.getElem?_eq_getElem hi]
      exact congrArg some (by simpa using h1)
end Am
