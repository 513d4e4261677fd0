/- endpoint: an end's heap, and what a tick makes of it. -/
import Derived.Test.YtfabolagjlhdpaaGreatEnd7
import Derived.Test.YtfabolagjlhdpaaGreatEnd4
namespace Am
set_option linter.all false
set_option maxRecDepth 20000
set_option maxHeartbeats 8000000
open Go (IntKind)
variable {pr : Prog} {h : H} {ob tb : Blk} {cB : Nat → List Blk} {role : Int} {A : Nat → Int} {B : Nat → Bool} {c : Nat → V}
theorem UH_nx (hl : ∀ n, (cB n).length = 13) : (UH h ob tb cB role A B c).nx = h.nx + 18 := by
  unfold UH
  show (pushAll _ _).nx + 1 + 1 + 1 = _
  rw [pushAll_nx, hl]; rfl
theorem UH_get (hl : ∀ n, (cB n).length = 13) (b : Nat) : (UH h ob tb cB role A B c).get b = if b = h.nx + 17 then some (.rows 2 [[.i .i64 role, .i .i64 0]] false) else if b = h.nx + 16 then some (.rows 23 [eRow c] false) else if b = h.nx + 15 then some (.rows 12 [tRow A B] false) else (pushAll ((h.push ob).push tb) (cB (h.nx + 2))).get b := by
  have n1 : (pushAll ((h.push ob).push tb) (cB (h.nx + 2))).nx = h.nx + 15 := by rw [pushAll_nx, hl]; rfl
  unfold UH
  generalize pushAll ((h.push ob).push tb) (cB (h.nx + 2)) = G at *
  rw [H.get_push, H.get_push, H.get_push]
  show (if b = G.nx + 1 + 1 then _ else if b = G.nx + 1 then _ else if b = G.nx then _ else _) = _
  rw [n1]
theorem UH_e (hl : ∀ n, (cB n).length = 13) : (UH h ob tb cB role A B c).get (h.nx + 16) = some (.rows 23 [eRow c] false) := by rw [UH_get hl, if_neg (by omega), if_pos rfl]
theorem UH_t (hl : ∀ n, (cB n).length = 13) : (UH h ob tb cB role A B c).get (h.nx + 15) = some (.rows 12 [tRow A B] false) := by rw [UH_get hl, if_neg (by omega), if_neg (by omega), if_pos rfl]
theorem UH_some (hl : ∀ n, (cB n).length = 13) {i : Nat} (hi : i < 13) : ((UH h ob tb cB role A B c).get (h.nx + 2 + i)).isSome = true := by
  rw [UH_get hl, if_neg (by omega), if_neg (by omega), if_neg (by omega), pushAll_get, hl, if_pos ⟨by show h.nx + 1 + 1 ≤ _; omega, by show _ < h.nx + 1 + 1 + 13; omega⟩]
  show ((cB (h.nx + 2))[h.nx + 2 + i - (h.nx + 1 + 1)]?).isSome = true
  rw [show h.nx + 2 + i - (h.nx + 1 + 1) = i from by omega, List.getElem?_eq_getElem (by rw [hl]; exact hi)]; rfl
theorem endC_live (hl : ∀ n, (cB n).length = 13) {own : Nat → V} {T : Nat → Int} {now : Int} {b : Bool} (hown : ∀ i, i < 5 → ∃ k n, own i = .i k n) {i : Nat} (hi : i < 23) : Live (UH h ob tb cB role A B c) (endC role own T now h.nx b i) := by
  have li : ∀ k n, Live (UH h ob tb cB role A B c) (.i k n) := fun k n => ⟨rfl, rfl⟩
  have lo : ∀ j, j < 5 → Live (UH h ob tb cB role A B c) (own j) := fun j hj => by obtain ⟨k, n, e⟩ := hown j hj; rw [e]; exact li _ _
  have nx := UH_nx (h := h) (ob := ob) (tb := tb) (cB := cB) (role := role) (A := A) (B := B) (c := c) hl
  have lp : ∀ j, 0 < j → j < 18 → ((UH h ob tb cB role A B c).get (h.nx + j)).isSome = true → Live (UH h ob tb cB role A B c) (.p (some (h.nx + j, 0, 0))) := fun j _ hj hs => ⟨⟨rfl, by omega, hs⟩, rfl, rfl⟩
  have ln : Live (UH h ob tb cB role A B c) nilS := ⟨rfl, rfl, rfl⟩
  match i, hi with
  | 0, _ => exact li _ _
  | 1, _ => exact li _ _
  | 2, _ => exact lo 0 (by omega)
  | 3, _ => exact lo 1 (by omega)
  | 4, _ => exact lo 2 (by omega)
  | 5, _ => exact lo 3 (by omega)
  | 6, _ => exact lo 4 (by omega)
  | 7, _ => exact li _ _
  | 8, _ => exact li _ _
  | 9, _ => exact li _ _
  | 10, _ => exact li _ _
  | 11, _ => exact li _ _
  | 12, _ => exact li _ _
  | 13, _ => exact lp 8 (by omega) (by omega) (by have := UH_some (h := h) (ob := ob) (tb := tb) (cB := cB) (role := role) (A := A) (B := B) (c := c) hl (i := 6) (by omega); exact this)
  | 14, _ => exact lp 17 (by omega) (by omega) (by rw [UH_get hl, if_pos rfl]; rfl)
  | 15, _ => exact lp 15 (by omega) (by omega) (by rw [UH_t hl]; rfl)
  | 16, _ => exact rfl
  | 17, _ => exact li _ _
  | 18, _ => exact ln
  | 19, _ => exact ln
  | 20, _ => exact rfl
  | 21, _ => exact ln
  | 22, _ => exact ln
  | i + 23, hi => exact absurd hi (by omega)
theorem mem_eRow {c : Nat → V} {v : V} (hv : v ∈ eRow c) : ∃ i, i < 23 ∧ v = c i := by
  unfold eRow at hv
  simp only [List.mem_cons, List.not_mem_nil, or_false] at hv
  rcases hv with h | h | h | h | h | h | h | h | h | h | h | h | h | h | h | h | h | h | h | h | h | h | h
  · exact ⟨0, by omega, h⟩
  · exact ⟨1, by omega, h⟩
  · exact ⟨2, by omega, h⟩
  · exact ⟨3, by omega, h⟩
  · exact ⟨4, by omega, h⟩
  · exact ⟨5, by omega, h⟩
  · exact ⟨6, by omega, h⟩
  · exact ⟨7, by omega, h⟩
  · exact ⟨8, by omega, h⟩
  · exact ⟨9, by omega, h⟩
  · exact ⟨10, by omega, h⟩
  · exact ⟨11, by omega, h⟩
  · exact ⟨12, by omega, h⟩
  · exact ⟨13, by omega, h⟩
  · exact ⟨14, by omega, h⟩
  · exact ⟨15, by omega, h⟩
  · exact ⟨16, by omega, h⟩
  · exact ⟨17, by omega, h⟩
  · exact ⟨18, by omega, h⟩
  · exact ⟨19, by omega, h⟩
  · exact ⟨20, by omega, h⟩
  · exact ⟨21, by omega, h⟩
  · exact ⟨22, by omega, h⟩
end Am
