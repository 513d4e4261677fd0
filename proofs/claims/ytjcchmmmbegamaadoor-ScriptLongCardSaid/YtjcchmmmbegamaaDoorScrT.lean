/- The law ScriptTexts. -/
import Derived.Test.YtjcchmmmbegamaaDoorScrM
namespace Am
set_option linter.unusedVariables false
set_option linter.unusedSimpArgs false
set_option maxRecDepth 20000
set_option maxHeartbeats 8000000
variable {pr : Prog}

theorem fieldsV_rd (h : H) (fs : List Fd) : ∃ a n ex g, fieldsV h (some fs) = (.tup [.sl a n n ex, .i .i64 0], g) ∧ n = fs.length ∧ rowsIn g 3 a n (fs.map Fd.row) ∧ Kept h g := by
  obtain ⟨a, n, ex, g, h1, h2, h3, h4⟩ := outVR_rd h 3 (fs.map Fd.row) [.i .i64 0]
  rw [List.length_map] at h2
  refine ⟨a, n, ex, g, h1, h2, ⟨by rw [List.length_map, h2], ?_⟩, h3⟩
  by_cases h0 : n = 0
  · exact .inl h0
  · obtain ⟨b, rfl, _, hb, hg⟩ := h4 0 _ (List.getElem?_eq_getElem (by rw [List.length_map]; omega))
    exact .inr ⟨b, 0, _, _, rfl, hb, hg, fun i row hi => by rw [Nat.zero_add]; exact hi⟩
end Am
