/- Fields as arguments: how much they hold in all. -/
import Derived.Test.YtjcchmmmbegamaaDoorScrT
import Derived.Test.YtjcchmmmbegamaaDoorAmBulk
namespace Am
set_option linter.unusedVariables false
set_option linter.unusedSimpArgs false
set_option maxRecDepth 20000
set_option maxHeartbeats 4000000

abbrev fldTy : Ty := .sl 3 (.st [.s, .s, .b])
theorem fd_of {d : Dt} (h : Dt.has (.st [.s, .s, .b]) d) : ∃ f : Fd, d = .st [.s f.n, .s f.v, .b f.z] := by
  cases d with
  | st xs =>
    simp only [Dt.has] at h
    match xs, h with
    | [a, b, c], h =>
      simp only [Dt.hasL] at h
      obtain ⟨h1, h2, h3, _⟩ := h
      cases a <;> simp only [Dt.has] at h1
      cases b <;> simp only [Dt.has] at h2
      cases c <;> simp only [Dt.has] at h3
      rename_i x y z
      exact ⟨⟨x, y, z⟩, rfl⟩
    | [], h => simp [Dt.hasL] at h
    | [a], h => simp [Dt.hasL] at h
    | [a, b], h => simp [Dt.hasL] at h
    | a :: b :: c :: d :: r, h => simp [Dt.hasL] at h
  | _ => simp [Dt.has] at h
theorem fds_ofT : ∀ {xs : List Dt}, Dt.hasA (.st [.s, .s, .b]) xs → ∃ fs : List Fd, fs.length = xs.length ∧ (∀ h, Dt.layR xs h = (fs.map Fd.row, h)) ∧ totF fs ≤ Dt.bulkL xs
  | [], _ => ⟨[], rfl, fun h => by simp [Dt.layR], by simp [totF]⟩
  | x :: xs, h => by
    simp only [Dt.hasA] at h
    obtain ⟨f, rfl⟩ := fd_of h.1
    obtain ⟨fs, hl, hfs, hb⟩ := fds_ofT h.2
    refine ⟨f :: fs, by simp [hl], fun g => ?_, ?_⟩
    · simp only [Dt.layR, Dt.lay, Dt.layL, hfs]
      rfl
    · simp only [totF, List.map_cons, List.sum_cons, Dt.bulkL, Dt.bulk] at hb ⊢; omega
theorem rows_argT {α : Type} {row : α → List V} {k : Nat} {xs : List Dt} {fs : List α} (hlen : fs.length = xs.length) (hfs : ∀ h, Dt.layR xs h = (fs.map row, h)) (h : H) :
    ((Dt.sl k xs).arg h).1 = .sl (some (h.nx, 0)) fs.length fs.length false ∧ rowsIn ((Dt.sl k xs).arg h).2 k (some (h.nx, 0)) fs.length (fs.map row) ∧ Kept h ((Dt.sl k xs).arg h).2 := by
  refine ⟨by simp only [Dt.arg, hfs, hlen], ?_, ?_⟩
  · simp only [Dt.arg, Dt.lay, hfs]
    refine ⟨by simp, ?_⟩
    cases xs with
    | nil => exact .inl (by simpa using hlen)
    | cons y ys => exact .inr ⟨h.nx, 0, fs.map row, true, rfl, by show h.nx < h.nx + 1; omega, by simp [H.get_push], fun i r hi => by rw [Nat.zero_add]; exact hi⟩
  · simp only [Dt.arg, Dt.lay, hfs]
    cases xs with
    | nil => exact ⟨Nat.le_succ _, fun b hb => rfl⟩
    | cons y ys => exact Kept.push Kept.refl
theorem fields_ofT {x : Dt} (hx : Dt.has fldTy x) : ∃ fs : List Fd, totF fs ≤ Dt.bulk x ∧ ∀ h, ∃ p cap ex, (x.arg h).1 = .sl p fs.length cap ex ∧ rowsIn (x.arg h).2 3 p fs.length (fs.map Fd.row) ∧ Kept h (x.arg h).2 := by
  cases x with
  | nl => exact ⟨[], by simp [totF], fun h => ⟨none, 0, true, rfl, ⟨rfl, .inl rfl⟩, Kept.refl⟩⟩
  | sl k xs =>
    simp only [Dt.has] at hx
    obtain ⟨rfl, hl, hA⟩ := hx
    obtain ⟨fs, hlen, hfs, hb⟩ := fds_ofT hA
    refine ⟨fs, by simp only [Dt.bulk]; omega, fun h => ⟨_, _, _, rows_argT hlen hfs h⟩⟩
  | _ => simp [Dt.has] at hx
end Am
