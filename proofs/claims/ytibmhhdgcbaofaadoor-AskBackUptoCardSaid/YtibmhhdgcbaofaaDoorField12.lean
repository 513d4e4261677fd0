/- The laws of lists: FieldLists. -/
import Derived.Test.YtibmhhdgcbaofaaDoorField10
import Derived.Test.YtibmhhdgcbaofaaDoorAmAll2
namespace Am
set_option linter.unusedVariables false
set_option linter.unusedSimpArgs false
set_option maxRecDepth 20000
set_option maxHeartbeats 8000000
variable {pr : Prog}

theorem fd_of {d : Dt} (h : Dt.has (.st [.s, .s, .b]) d) : ∃ f : Fd, d = .st [.s f.n, .s f.v, .b f.z] := by
  cases d with
  | st xs =>
    simp only [Dt.has] at h
    match xs, h with
    | [a, b, c], h =>
      simp only [Dt.hasL] at h
      obtain ⟨h1, h2, h3, _⟩ := h
      cases a <;> simp only [Dt.has] at h1
      cases b <;> simp only [Dt.has] at h2
      cases c <;> simp only [Dt.has] at h3
      rename_i x y z
      exact ⟨⟨x, y, z⟩, rfl⟩
    | [], h => simp [Dt.hasL] at h
    | [a], h => simp [Dt.hasL] at h
    | [a, b], h => simp [Dt.hasL] at h
    | a :: b :: c :: d :: r, h => simp [Dt.hasL] at h
  | _ => simp [Dt.has] at h
abbrev fdsTy : Ty := .sl 3 (.st [.s, .s, .b])
end Am
