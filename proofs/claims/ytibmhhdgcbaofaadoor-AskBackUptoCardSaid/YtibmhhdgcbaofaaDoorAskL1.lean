/- The whole lines of bytes, as the document goes over them. -/
import Derived.Test.YtibmhhdgcbaofaaDoorBs
import Derived.Test.YtibmhhdgcbaofaaDoorAmIndex
import Derived.Test.YtibmhhdgcbaofaaDoorAsk1
import Derived.Test.YtibmhhdgcbaofaaDoorField17
import Derived.Test.YtibmhhdgcbaofaaDoorCodesAll
import Derived.Lib.IndexMore
namespace Am
set_option linter.unusedVariables false
set_option linter.unusedSimpArgs false
set_option maxRecDepth 20000
set_option maxHeartbeats 4000000
variable {pr : Prog}

def crlf : List UInt8 := [13, 10]
def linesG : Nat → List UInt8 → List (List UInt8) × Nat × Bool
  | 0, _ => ([], 0, false)
  | f + 1, s =>
    if 0 ≤ fIdxS s crlf then
      if fIdxS s crlf = 0 then ([[]], 2, true)
      else (s.take (fIdxS s crlf).toNat :: (linesG f (s.drop ((fIdxS s crlf).toNat + 2))).1, (fIdxS s crlf).toNat + 2 + (linesG f (s.drop ((fIdxS s crlf).toNat + 2))).2.1, (linesG f (s.drop ((fIdxS s crlf).toNat + 2))).2.2)
    else ([], 0, false)
def linesR (s : List UInt8) : List (List UInt8) × Nat × Bool := linesG (s.length + 1) s
theorem fIdxS_room (s : List UInt8) (sub : List UInt8) (h : 0 ≤ fIdxS s sub) : fIdxS s sub + sub.length ≤ s.length := by
  rw [fIdxS_eq] at h ⊢; exact Go.Lib.index_room s sub h
theorem linesG_more : ∀ (f : Nat) (s : List UInt8), s.length < f → linesG f s = linesG (s.length + 1) s := by
  intro f
  induction f using Nat.strongRecOn with
  | ind f ih =>
    intro s hs
    cases f with
    | zero => omega
    | succ f =>
      unfold linesG
      split
      · rename_i h0
        have hr := fIdxS_room s crlf h0
        have hc : crlf.length = 2 := rfl
        split
        · rfl
        · have hlt : (s.drop ((fIdxS s crlf).toNat + 2)).length < s.length := by rw [List.length_drop]; omega
          rw [ih f (by omega) _ (by omega)]
          by_cases he : s.length = f
          · rw [he] at hlt; rw [he, ih f (by omega) _ hlt]
          · rw [ih s.length (by omega) _ hlt]
      · rfl
theorem linesR_none {s : List UInt8} (h : ¬ 0 ≤ fIdxS s crlf) : linesR s = ([], 0, false) := by
  unfold linesR linesG; rw [if_neg h]
theorem linesR_zero {s : List UInt8} (h : fIdxS s crlf = 0) : linesR s = ([[]], 2, true) := by
  unfold linesR linesG; rw [if_pos (by omega), if_pos h]
theorem linesR_cons {s : List UInt8} {i : Nat} (h : fIdxS s crlf = i) (hi : i ≠ 0) : linesR s = (s.take i :: (linesR (s.drop (i + 2))).1, i + 2 + (linesR (s.drop (i + 2))).2.1, (linesR (s.drop (i + 2))).2.2) := by
  have hr := fIdxS_room s crlf (by omega)
  have hc : crlf.length = 2 := rfl
  unfold linesR
  rw [linesG]
  rw [if_pos (by omega), if_neg (by omega), h]
  simp only [Int.toNat_natCast]
  have hlt : (s.drop (i + 2)).length < s.length := by rw [List.length_drop]; omega
  rw [linesG_more s.length _ hlt]
theorem occ_crlf {s : List UInt8} {i : Nat} : Go.Lib.occAt s crlf i = true ↔ (s[i]? = some 13 ∧ s[i + 1]? = some 10) := by
  unfold Go.Lib.occAt crlf
  have h0 : (s.drop i)[0]? = s[i]? := by rw [List.getElem?_drop]; rfl
  have h1 : (s.drop i)[1]? = s[i + 1]? := by rw [List.getElem?_drop]
  rw [← h0, ← h1]
  match s.drop i with
  | [] => simp [List.isPrefixOf]
  | [x] => simp [List.isPrefixOf]
  | x :: y :: r =>
    simp [List.isPrefixOf]
    exact ⟨fun h => ⟨h.1.symm, h.2.symm⟩, fun h => ⟨h.1.symm, h.2.symm⟩⟩
theorem fIdx_crlf {s : List UInt8} {i : Nat} (h1 : s[i]? = some 13) (h2 : s[i + 1]? = some 10) (hn : ∀ j, j < i → ¬ (s[j]? = some 13 ∧ s[j + 1]? = some 10)) : fIdxS s crlf = i := by
  rw [fIdxS_eq]
  have hlt : i < s.length := (List.getElem?_eq_some_iff.1 h1).1
  refine Go.Lib.index_first (by omega) (occ_crlf.2 ⟨h1, h2⟩) fun j hj => ?_
  rw [Bool.eq_false_iff]
  exact fun hx => hn j hj (occ_crlf.1 hx)
theorem fIdx_crlf_none {s : List UInt8} (hn : ∀ j : Nat, ¬ (s[j]? = some (13 : UInt8) ∧ s[j + 1]? = some (10 : UInt8))) : fIdxS s crlf = -1 := by
  rw [fIdxS_eq]
  refine Go.Lib.index_none fun j hj => ?_
  rw [Bool.eq_false_iff]
  exact fun hx => hn j (occ_crlf.1 hx)
theorem linesR_len : ∀ (n : Nat) (s : List UInt8), s.length ≤ n → (linesR s).1.length ≤ s.length ∧ (linesR s).2.1 ≤ s.length ∧ ∀ l ∈ (linesR s).1, l.length ≤ s.length := by
  intro n
  induction n with
  | zero =>
    intro s hs
    have : s = [] := List.eq_nil_of_length_eq_zero (by omega)
    subst this
    have h : linesR [] = ([], 0, false) := linesR_none (by decide)
    rw [h]; exact ⟨Nat.le_refl _, Nat.le_refl _, fun l hl => by cases hl⟩
  | succ n ih =>
    intro s hs
    have hc : crlf.length = 2 := rfl
    by_cases h0 : 0 ≤ fIdxS s crlf
    · have hr := fIdxS_room s crlf h0
      obtain ⟨i, hi⟩ : ∃ i : Nat, fIdxS s crlf = i := ⟨(fIdxS s crlf).toNat, by omega⟩
      by_cases hz : i = 0
      · rw [linesR_zero (by omega)]
        refine ⟨by simp; omega, by simp; omega, fun l hl => ?_⟩
        simp only [List.mem_singleton] at hl
        subst hl; exact Nat.zero_le _
      · rw [linesR_cons hi hz]
        have hlen : (s.drop (i + 2)).length = s.length - (i + 2) := List.length_drop
        obtain ⟨a, b, c⟩ := ih (s.drop (i + 2)) (by omega)
        refine ⟨by simp only [List.length_cons]; omega, by simp only; omega, fun l hl => ?_⟩
        rcases List.mem_cons.1 hl with rfl | hl
        · rw [List.length_take]; omega
        · have := c l hl; omega
    · rw [linesR_none h0]; exact ⟨Nat.zero_le _, Nat.zero_le _, fun l hl => by cases hl⟩

end Am
