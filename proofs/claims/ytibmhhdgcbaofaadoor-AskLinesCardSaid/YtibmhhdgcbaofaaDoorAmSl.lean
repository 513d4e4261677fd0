/- AmSl: slices of one's own: what they hold, appends, parts. -/
import Derived.Test.YtibmhhdgcbaofaaDoorAmStep
namespace Am
set_option linter.unusedVariables false
set_option linter.unusedSimpArgs false

/-- A slice's block. -/
def blkOf (a : Option (Nat × Nat)) : Option Nat := a.map (·.1)
/-- Rows that a slice of one's own holds. -/
def RSl (h : H) (k : Nat) (a : Option (Nat × Nat)) (n c : Nat) (rows : List (List V)) : Prop :=
  rows.length = n ∧ n ≤ c ∧ match a with
    | none => c = 0
    | some (b, r) => b < h.nx ∧ ∃ all, h.get b = some (.rows k all false) ∧ r + c ≤ all.length ∧ (all.drop r).take n = rows
def BSl (h : H) (a : Option (Nat × Nat)) (n c : Nat) (bs : List UInt8) : Prop :=
  bs.length = n ∧ n ≤ c ∧ match a with
    | none => c = 0
    | some (b, r) => b < h.nx ∧ ∃ all, h.get b = some (.bytes all false) ∧ r + c ≤ all.length ∧ (all.drop r).take n = bs

variable {h g : H} {k n c : Nat} {a : Option (Nat × Nat)} {rows : List (List V)} {bs : List UInt8}

theorem RSl.nil (h : H) (k : Nat) : RSl h k none 0 0 [] := ⟨rfl, Nat.le_refl _, rfl⟩
theorem BSl.nil (h : H) : BSl h none 0 0 [] := ⟨rfl, Nat.le_refl _, rfl⟩
theorem RSl.keep (o : RSl h k a n c rows) (hn : h.nx ≤ g.nx) (hk : ∀ i, blkOf a = some i → g.get i = h.get i) : RSl g k a n c rows := by
  obtain ⟨h1, h2, h3⟩ := o
  refine ⟨h1, h2, ?_⟩
  cases a with
  | none => exact h3
  | some p =>
    obtain ⟨b, r⟩ := p
    obtain ⟨hb, all, hg, x, y⟩ := h3
    exact ⟨by omega, all, by rw [hk b rfl]; exact hg, x, y⟩
theorem BSl.keep (o : BSl h a n c bs) (hn : h.nx ≤ g.nx) (hk : ∀ i, blkOf a = some i → g.get i = h.get i) : BSl g a n c bs := by
  obtain ⟨h1, h2, h3⟩ := o
  refine ⟨h1, h2, ?_⟩
  cases a with
  | none => exact h3
  | some p =>
    obtain ⟨b, r⟩ := p
    obtain ⟨hb, all, hg, x, y⟩ := h3
    exact ⟨by omega, all, by rw [hk b rfl]; exact hg, x, y⟩
theorem RSl.lt (o : RSl h k a n c rows) {b : Nat} (hb : blkOf a = some b) : b < h.nx := by
  cases a with
  | none => cases hb
  | some p => obtain ⟨b', r⟩ := p; cases hb; exact o.2.2.1
theorem BSl.lt (o : BSl h a n c bs) {b : Nat} (hb : blkOf a = some b) : b < h.nx := by
  cases a with
  | none => cases hb
  | some p => obtain ⟨b', r⟩ := p; cases hb; exact o.2.2.1
theorem RSl.rseg (o : RSl h k a n c rows) : h.rseg k a n = some rows := by
  obtain ⟨h1, h2, h3⟩ := o
  unfold H.rseg
  by_cases hn : n = 0
  · subst hn; rw [if_pos rfl, List.eq_nil_of_length_eq_zero h1]
  · rw [if_neg hn]
    cases a with
    | none => simp only at h3; omega
    | some p =>
      obtain ⟨b, r⟩ := p
      obtain ⟨hb, all, hg, x, y⟩ := h3
      simp only [hg]
      rw [if_pos ⟨trivial, by omega⟩, y]
theorem BSl.bseg (o : BSl h a n c bs) : h.bseg a n = some bs := by
  obtain ⟨h1, h2, h3⟩ := o
  unfold H.bseg
  by_cases hn : n = 0
  · subst hn; rw [if_pos rfl, List.eq_nil_of_length_eq_zero h1]
  · rw [if_neg hn]
    cases a with
    | none => simp only at h3; omega
    | some p =>
      obtain ⟨b, r⟩ := p
      obtain ⟨hb, all, hg, x, y⟩ := h3
      simp only [hg]
      rw [if_pos (by omega), y]

theorem splice_took {α : Type} {all ys : List α} {r n c : Nat} (hc : r + c ≤ all.length) (hn : n + ys.length ≤ c) : ((splice all (r + n) ys).drop r).take (n + ys.length) = (all.drop r).take n ++ ys := by
  unfold splice
  apply List.ext_getElem?
  intro i
  by_cases hi : i < n + ys.length
  · rw [List.getElem?_take_of_lt hi, List.getElem?_drop]
    by_cases h1 : i < n
    · rw [List.append_assoc, List.getElem?_append_left (by rw [List.length_take]; omega), List.getElem?_take_of_lt (by omega), List.getElem?_append_left (by rw [List.length_take, List.length_drop]; omega),
        List.getElem?_take_of_lt h1, List.getElem?_drop]
    · rw [List.getElem?_append_left (by rw [List.length_append, List.length_take]; omega), List.getElem?_append_right (by rw [List.length_take]; omega),
        List.getElem?_append_right (by rw [List.length_take, List.length_drop]; omega), List.length_take, List.length_take, List.length_drop]
      congr 1; omega
  · rw [List.getElem?_eq_none (by rw [List.length_take]; omega), List.getElem?_eq_none (by rw [List.length_append, List.length_take]; omega)]
theorem splice_len {α : Type} {all ys : List α} {i : Nat} (h : i + ys.length ≤ all.length) : (splice all i ys).length = all.length := by
  unfold splice
  simp only [List.length_append, List.length_take, List.length_drop]; omega

/-- What an append leaves as it was. -/
def AppKept (h : H) (a : Option (Nat × Nat)) (g : H) (a' : Option (Nat × Nat)) : Prop :=
  h.nx ≤ g.nx ∧ (∀ i, i < h.nx → blkOf a ≠ some i → g.get i = h.get i) ∧ ((blkOf a' = blkOf a ∧ g.nx = h.nx) ∨ (blkOf a' = some h.nx ∧ g.nx = h.nx + 1))

theorem RSl.app (o : RSl h k a n c rows) {bytes : Nat} {ex : Bool} {new : List (List V)} (hr : roomOk (n + new.length) bytes = true) :
    ∃ a' c' ex' g, appRows h k bytes a n c ex new = some (.sl a' (n + new.length) c' ex', g) ∧ RSl g k a' (n + new.length) c' (rows ++ new) ∧ AppKept h a g a' := by
  have hseg := o.rseg
  obtain ⟨h1, h2, h3⟩ := o
  unfold appRows
  by_cases hc : n + new.length ≤ c
  · rw [if_pos hc]
    unfold H.rput
    by_cases hz : new = []
    · subst hz
      rw [if_pos rfl]
      exact ⟨a, c, ex, h, by simp, ⟨by simp [h1], by simpa using h2, by simpa using h3⟩, Nat.le_refl _, fun _ _ _ => rfl, .inl ⟨rfl, rfl⟩⟩
    · rw [if_neg hz]
      have hlen : 0 < new.length := List.length_pos_iff.2 hz
      cases a with
      | none => simp only at h3; omega
      | some p =>
        obtain ⟨b, r⟩ := p
        obtain ⟨hb, all, hg, x, y⟩ := h3
        simp only [hg]
        rw [if_pos ⟨trivial, by omega⟩]
        refine ⟨some (b, r), c, ex, _, rfl, ⟨by simp [h1], hc, hb, _, by rw [H.get_set, if_pos rfl], by rw [splice_len (by omega)]; exact x, by rw [splice_took x hc, y]⟩, Nat.le_refl _, ?_, .inl ⟨rfl, rfl⟩⟩
        intro i hi hne
        rw [H.get_set, if_neg (by rintro rfl; exact hne rfl)]
  · rw [if_neg hc, if_pos hr, hseg, Option.bind_some]
    have hlose : ∃ h', h.loseR k a ex = some h' ∧ h'.nx = h.nx ∧ ∀ i, i < h.nx → blkOf a ≠ some i → h'.get i = h.get i := by
      unfold H.loseR
      by_cases he : ex = true
      · rw [if_pos he]; exact ⟨h, rfl, rfl, fun _ _ _ => rfl⟩
      · rw [if_neg he]
        cases a with
        | none => exact ⟨h, rfl, rfl, fun _ _ _ => rfl⟩
        | some p =>
          obtain ⟨b, r⟩ := p
          obtain ⟨hb, all, hg, x, y⟩ := h3
          simp only [hg, if_true]
          exact ⟨_, rfl, rfl, fun i hi hne => by rw [H.get_kill, if_neg (by rintro rfl; exact hne rfl)]⟩
    obtain ⟨h', hl', hx', hk'⟩ := hlose
    rw [hl', Option.bind_some]
    refine ⟨_, _, _, _, rfl, ⟨by simp [h1], Nat.le_refl _, ?_, rows ++ new, by rw [H.get_push, if_pos rfl], by simp [h1], by rw [List.drop_zero]; exact List.take_of_length_le (by rw [List.length_append]; omega)⟩, ?_, ?_, .inr ⟨by rw [← hx']; rfl, by rw [← hx']; rfl⟩⟩
    · show h'.nx < h'.nx + 1; omega
    · show h.nx ≤ h'.nx + 1; omega
    · intro i hi hne
      rw [H.get_push, if_neg (by omega)]
      exact hk' i hi hne

theorem BSl.app (o : BSl h a n c bs) {bytes : Nat} {ex : Bool} {new : List UInt8} (hr : roomOk (n + new.length) bytes = true) :
    ∃ a' c' ex' g, appBytes h bytes a n c ex new = some (.sl a' (n + new.length) c' ex', g) ∧ BSl g a' (n + new.length) c' (bs ++ new) ∧ AppKept h a g a' := by
  have hseg := o.bseg
  obtain ⟨h1, h2, h3⟩ := o
  unfold appBytes
  by_cases hc : n + new.length ≤ c
  · rw [if_pos hc]
    unfold H.bput
    by_cases hz : new = []
    · subst hz
      rw [if_pos rfl]
      exact ⟨a, c, ex, h, by simp, ⟨by simp [h1], by simpa using h2, by simpa using h3⟩, Nat.le_refl _, fun _ _ _ => rfl, .inl ⟨rfl, rfl⟩⟩
    · rw [if_neg hz]
      have hlen : 0 < new.length := List.length_pos_iff.2 hz
      cases a with
      | none => simp only at h3; omega
      | some p =>
        obtain ⟨b, r⟩ := p
        obtain ⟨hb, all, hg, x, y⟩ := h3
        simp only [hg]
        rw [if_pos (by omega)]
        refine ⟨some (b, r), c, ex, _, rfl, ⟨by simp [h1], hc, hb, _, by rw [H.get_set, if_pos rfl], by rw [splice_len (by omega)]; exact x, by rw [splice_took x hc, y]⟩, Nat.le_refl _, ?_, .inl ⟨rfl, rfl⟩⟩
        intro i hi hne
        rw [H.get_set, if_neg (by rintro rfl; exact hne rfl)]
  · rw [if_neg hc, if_pos hr, hseg, Option.bind_some]
    have hlose : ∃ h', h.loseB a ex = some h' ∧ h'.nx = h.nx ∧ ∀ i, i < h.nx → blkOf a ≠ some i → h'.get i = h.get i := by
      unfold H.loseB
      by_cases he : ex = true
      · rw [if_pos he]; exact ⟨h, rfl, rfl, fun _ _ _ => rfl⟩
      · rw [if_neg he]
        cases a with
        | none => exact ⟨h, rfl, rfl, fun _ _ _ => rfl⟩
        | some p =>
          obtain ⟨b, r⟩ := p
          obtain ⟨hb, all, hg, x, y⟩ := h3
          simp only [hg, if_true]
          exact ⟨_, rfl, rfl, fun i hi hne => by rw [H.get_kill, if_neg (by rintro rfl; exact hne rfl)]⟩
    obtain ⟨h', hl', hx', hk'⟩ := hlose
    rw [hl', Option.bind_some]
    refine ⟨_, _, _, _, rfl, ⟨by simp [h1], Nat.le_refl _, ?_, bs ++ new, by rw [H.get_push, if_pos rfl], by simp [h1], by rw [List.drop_zero]; exact List.take_of_length_le (by rw [List.length_append]; omega)⟩, ?_, ?_, .inr ⟨by rw [← hx']; rfl, by rw [← hx']; rfl⟩⟩
    · show h'.nx < h'.nx + 1; omega
    · show h.nx ≤ h'.nx + 1; omega
    · intro i hi hne
      rw [H.get_push, if_neg (by omega)]
      exact hk' i hi hne

/-- From i on. -/
theorem RSl.from {b r : Nat} (o : RSl h k (some (b, r)) n c rows) {i : Nat} (hi : i ≤ n) : RSl h k (some (b, r + i)) (n - i) (c - i) (rows.drop i) := by
  obtain ⟨h1, h2, hb, all, hg, x, y⟩ := o
  refine ⟨by rw [List.length_drop, h1], by omega, hb, all, hg, by omega, ?_⟩
  rw [← y, List.drop_take, List.drop_drop]
theorem BSl.from {b r : Nat} (o : BSl h (some (b, r)) n c bs) {i : Nat} (hi : i ≤ n) : BSl h (some (b, r + i)) (n - i) (c - i) (bs.drop i) := by
  obtain ⟨h1, h2, hb, all, hg, x, y⟩ := o
  refine ⟨by rw [List.length_drop, h1], by omega, hb, all, hg, by omega, ?_⟩
  rw [← y, List.drop_take, List.drop_drop]
/-- Up to i. -/
theorem RSl.upto (o : RSl h k a n c rows) {i : Nat} (hi : i ≤ n) : RSl h k a i c (rows.take i) := by
  obtain ⟨h1, h2, h3⟩ := o
  refine ⟨by rw [List.length_take]; omega, by omega, ?_⟩
  cases a with
  | none => exact h3
  | some p =>
    obtain ⟨b, r⟩ := p
    obtain ⟨hb, all, hg, x, y⟩ := h3
    exact ⟨hb, all, hg, x, by rw [← y, List.take_take, Nat.min_eq_left hi]⟩
theorem BSl.upto (o : BSl h a n c bs) {i : Nat} (hi : i ≤ n) : BSl h a i c (bs.take i) := by
  obtain ⟨h1, h2, h3⟩ := o
  refine ⟨by rw [List.length_take]; omega, by omega, ?_⟩
  cases a with
  | none => exact h3
  | some p =>
    obtain ⟨b, r⟩ := p
    obtain ⟨hb, all, hg, x, y⟩ := h3
    exact ⟨hb, all, hg, x, by rw [← y, List.take_take, Nat.min_eq_left hi]⟩
/-- What is there. -/
theorem RSl.at {b r : Nat} (o : RSl h k (some (b, r)) n c rows) : ∃ all, h.get b = some (.rows k all false) ∧ ∀ i row, rows[i]? = some row → all[r + i]? = some row := by
  obtain ⟨h1, h2, hb, all, hg, x, y⟩ := o
  refine ⟨all, hg, fun i row hi => ?_⟩
  have hlt : i < n := by have := (List.getElem?_eq_some_iff.1 hi).1; omega
  rw [← y, List.getElem?_take_of_lt hlt, List.getElem?_drop] at hi
  exact hi
theorem BSl.at {b r : Nat} (o : BSl h (some (b, r)) n c bs) : ∃ all, h.get b = some (.bytes all false) ∧ ∀ i x, bs[i]? = some x → all[r + i]? = some x := by
  obtain ⟨h1, h2, hb, all, hg, x, y⟩ := o
  refine ⟨all, hg, fun i row hi => ?_⟩
  have hlt : i < n := by have := (List.getElem?_eq_some_iff.1 hi).1; omega
  rw [← y, List.getElem?_take_of_lt hlt, List.getElem?_drop] at hi
  exact hi
/-- Not empty: it has a place. -/
theorem RSl.pos (o : RSl h k a n c rows) (hn : 0 < n) : ∃ b r, a = some (b, r) := by
  cases a with
  | none => have := o.2.1; have := o.2.2; simp only at this; omega
  | some p => exact ⟨_, _, rfl⟩
theorem BSl.pos (o : BSl h a n c bs) (hn : 0 < n) : ∃ b r, a = some (b, r) := by
  cases a with
  | none => have := o.2.1; have := o.2.2; simp only at this; omega
  | some p => exact ⟨_, _, rfl⟩
end Am
