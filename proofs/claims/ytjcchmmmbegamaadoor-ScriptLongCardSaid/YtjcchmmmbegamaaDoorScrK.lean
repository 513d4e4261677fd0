/- Script texts, the plain law: what is read is written again. No program in sight. -/
import Derived.Test.YtjcchmmmbegamaaDoorScrJ
namespace Am
set_option linter.unusedVariables false
set_option linter.unusedSimpArgs false
set_option maxRecDepth 20000
set_option maxHeartbeats 4000000

theorem hexB_of_V {x : UInt8} {a : Nat} (h : hexV x = some a) : hexB a = x := by
  unfold hexV at h
  obtain ⟨h1, h2, _⟩ := List.findIdx?_eq_some_iff_getElem.1 h
  unfold hexB
  rw [List.getD_eq_getElem?_getD, List.getElem?_eq_getElem h1]
  simpa using h2
theorem tlF_inv : ∀ (n : Nat) (acc s : List UInt8) (t r : List UInt8), s.length ≤ n → tlF acc s = some (t, r) → ∃ u, t = acc ++ u ∧ s = u.flatMap encB ++ 34 :: r
  | n, acc, [], t, r, hn, h => by rw [tlF_nil] at h; cases h
  | 0, acc, c :: s, t, r, hn, h => by simp at hn
  | n + 1, acc, c :: s, t, r, hn, h => by
    rw [tlF_cons] at h
    simp only [List.length_cons, Nat.add_le_add_iff_right] at hn
    by_cases h1 : c = 34
    · rw [if_pos h1] at h; cases h; exact ⟨[], by simp, by simp [h1]⟩
    · rw [if_neg h1] at h
      by_cases h2 : plainB c = true
      · rw [if_pos h2] at h
        obtain ⟨u, e1, e2⟩ := tlF_inv n _ _ _ _ hn h
        refine ⟨c :: u, by rw [e1, List.append_assoc]; rfl, ?_⟩
        rw [List.flatMap_cons, show encB c = [c] by rw [encB, if_pos h2], e2]; rfl
      · rw [if_neg h2] at h
        by_cases h3 : c = 92
        · rw [if_pos h3] at h
          unfold tlE at h
          split at h
          · rename_i x y r'
            split at h
            · rename_i a b hx hy
              split at h
              · cases h
              · rename_i hp
                obtain ⟨u, e1, e2⟩ := tlF_inv n _ _ _ _ (by simp at hn; omega) h
                have la := hexV_lt hx
                have lb := hexV_lt hy
                have hv : (UInt8.ofNat (16 * a + b)).toNat = 16 * a + b := by
                  rw [UInt8.toNat_ofNat']; exact Nat.mod_eq_of_lt (by omega)
                refine ⟨UInt8.ofNat (16 * a + b) :: u, by rw [e1, List.append_assoc]; rfl, ?_⟩
                rw [List.flatMap_cons, show encB (UInt8.ofNat (16 * a + b)) = [92, hexB ((UInt8.ofNat (16 * a + b)).toNat / 16), hexB ((UInt8.ofNat (16 * a + b)).toNat % 16)] by rw [encB, if_neg hp], hv,
                  show (16 * a + b) / 16 = a by omega, show (16 * a + b) % 16 = b by omega, hexB_of_V hx, hexB_of_V hy, e2, h3]
                rfl
            · cases h
          · cases h
        · rw [if_neg h3] at h; cases h
theorem cutF_inv {s t r : List UInt8} (h : cutF s = some (t, r)) : s = txF t ++ r := by
  unfold cutF at h
  split at h
  · split at h
    · rename_i c r1 hc
      obtain ⟨u, e1, e2⟩ := tlF_inv _ _ _ _ _ (Nat.le_refl _) h
      rw [List.nil_append] at e1
      subst e1
      rw [e2, hc]
      simp [txF]
    · cases h
  · cases h
theorem oneF_inv {s r : List UInt8} {f : Fd} (h : oneF s = some (f, r)) : s = fieldT f ++ r := by
  unfold oneF at h
  split at h
  · rename_i n c r1 h1
    have e1 := cutF_inv h1
    split at h
    · rename_i hc
      split at h
      · rename_i v c2 r2 h2
        have e2 := cutF_inv h2
        split at h <;> rename_i h33 <;> cases h
        · rw [e1, hc, e2, h33]; simp [fieldT]
        · rw [e1, hc, e2]; simp [fieldT]
      · rename_i v h2
        have e2 := cutF_inv h2
        cases h
        rw [e1, hc, e2]; simp [fieldT]
      · cases h
    · cases h
  · cases h
theorem rfF_inv : ∀ (k : Nat) (s : List UInt8) (fs : List Fd), rfF k s = some fs → ∃ f r, fs = f :: r ∧ s = fieldT f ++ (r.map fun x => 44 :: fieldT x).flatten
  | 0, s, fs, h => by cases h
  | k + 1, s, fs, h => by
    rw [rfF] at h
    split at h
    · rename_i f h1
      cases h
      exact ⟨f, [], rfl, by rw [oneF_inv h1]; simp⟩
    · rename_i f c r h1
      have e1 := oneF_inv h1
      split at h
      · rename_i hc
        obtain ⟨fs', h2, rfl⟩ := Option.map_eq_some_iff.1 h
        obtain ⟨g, r', rfl, e2⟩ := rfF_inv k r fs' h2
        exact ⟨f, g :: r', rfl, by rw [e1, hc, e2]; simp⟩
      · cases h
    · cases h
theorem readF_inv {s : List UInt8} {fs : List Fd} (h : readF s = some fs) : fF fs = s := by
  unfold readF at h
  split at h
  · rename_i h1; cases h; rw [h1]; rfl
  · obtain ⟨f, r, rfl, e⟩ := rfF_inv _ _ _ h
    rw [e]; rfl
theorem tx_ge (l : List UInt8) : l.length + 2 ≤ (txF l).length := by
  unfold txF
  simp only [List.length_cons, List.length_append, List.length_nil]
  have : l.length ≤ (l.flatMap encB).length := by
    induction l with
    | nil => simp
    | cons c l ih =>
      rw [List.flatMap_cons, List.length_append, List.length_cons]
      have : 1 ≤ (encB c).length := by unfold encB; split <;> simp
      omega
  omega
theorem fieldT_ge (f : Fd) : f.n.length + f.v.length + 1 ≤ (fieldT f).length := by
  have h1 := tx_ge f.n
  have h2 := tx_ge f.v
  unfold fieldT
  simp only [List.length_append, List.length_cons]
  omega
theorem totF_le (fs : List Fd) : totF fs ≤ (fF fs).length := by
  cases fs with
  | nil => simp [totF]
  | cons f r =>
    have h1 := fieldT_ge f
    have h2 : totF r ≤ ((r.map fun x => 44 :: fieldT x).flatten).length := by
      induction r with
      | nil => simp [totF]
      | cons g r ih =>
        have h3 := fieldT_ge g
        simp only [totF, List.map_cons, List.sum_cons, List.flatten_cons, List.length_append, List.length_cons] at ih ⊢
        omega
    simp only [fF, totF, List.map_cons, List.sum_cons, List.length_append] at h2 ⊢
    omega
/-- A text read: what it says. -/
def readT (s : List UInt8) : Option (List UInt8) :=
  match cutF s with
  | some (t, []) => some t
  | _ => none
theorem readT_inv {s t : List UInt8} (h : readT s = some t) : txF t = s := by
  unfold readT at h
  split at h
  · rename_i t' h1
    cases h
    rw [cutF_inv h1, List.append_nil]
  · cases h
theorem joinS_join (w : List UInt8) (ws ys : List (List UInt8)) (b : List UInt8) (hy : ys ≠ []) : joinS (w :: (ws ++ [joinS ys b])) b = joinS (w :: (ws ++ ys)) b := by
  cases ys with
  | nil => exact absurd rfl hy
  | cons y r =>
    simp only [joinS, List.map_append, List.flatten_append, List.map_cons, List.flatten_cons, List.map_nil, List.flatten_nil, List.append_nil, List.append_assoc]
end Am
