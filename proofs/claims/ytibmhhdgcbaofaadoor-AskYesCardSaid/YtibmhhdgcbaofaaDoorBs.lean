/- Bytes that are read: a slice's part of a block. -/
import Derived.Test.YtibmhhdgcbaofaaDoorAmSl
import Derived.Test.YtibmhhdgcbaofaaDoorAmAbs2
import Derived.Test.YtibmhhdgcbaofaaDoorAmLaw
namespace Am
set_option linter.unusedVariables false
set_option linter.unusedSimpArgs false

variable {h g : H} {a : Option (Nat × Nat)} {n k : Nat} {l : List UInt8}

theorem bseg_len (hr : h.bseg a n = some l) : l.length = n := by
  unfold H.bseg at hr
  split at hr
  · rename_i h0; cases hr; exact h0.symm
  · split at hr
    · cases hr
    · split at hr
      · split at hr
        · cases hr; rw [List.length_take, List.length_drop]; omega
        · cases hr
      · cases hr
theorem bseg_zero : h.bseg a 0 = some [] := by unfold H.bseg; rw [if_pos rfl]
theorem bseg_open (hr : h.bseg a n = some l) (hn : 0 < n) : ∃ b r bs ro, a = some (b, r) ∧ h.get b = some (.bytes bs ro) ∧ r + n ≤ bs.length ∧ l = (bs.drop r).take n ∧ ∀ i, i < n → bs[r + i]? = l[i]? := by
  unfold H.bseg at hr
  split at hr
  · omega
  · split at hr
    · cases hr
    · rename_i b r
      split at hr
      · rename_i bs ro hg
        split at hr
        · rename_i hle
          cases hr
          exact ⟨b, r, bs, ro, rfl, hg, hle, rfl, fun i hi => by rw [List.getElem?_take_of_lt hi, List.getElem?_drop]⟩
        · cases hr
      · cases hr
theorem bseg_take (hr : h.bseg a n = some l) (hk : k ≤ n) : h.bseg a k = some (l.take k) := by
  by_cases h0 : k = 0
  · subst h0; rw [bseg_zero, List.take_zero]
  · obtain ⟨b, r, bs, ro, rfl, hg, hle, rfl, _⟩ := bseg_open hr (by omega)
    unfold H.bseg
    rw [if_neg h0]
    simp only [hg]
    rw [if_pos (by omega), List.take_take, Nat.min_eq_left hk]
theorem bseg_from {b r s : Nat} (hr : h.bseg (some (b, r)) n = some l) (hs : s ≤ n) : h.bseg (some (b, r + s)) (n - s) = some (l.drop s) := by
  by_cases h0 : n - s = 0
  · rw [h0, bseg_zero, List.drop_eq_nil_of_le (by rw [bseg_len hr]; omega)]
  · obtain ⟨b', r', bs, ro, e, hg, hle, rfl, _⟩ := bseg_open hr (by omega)
    cases e
    unfold H.bseg
    rw [if_neg h0]
    simp only [hg]
    rw [if_pos (by omega), List.drop_take, List.drop_drop]
theorem bseg_kept (hr : h.bseg a n = some l) (hb : ∀ b, blkOf a = some b → b < h.nx) (hk : Kept h g) : g.bseg a n = some l := by
  by_cases h0 : n = 0
  · subst h0; rw [bseg_zero] at hr ⊢; exact hr
  · obtain ⟨b, r, bs, ro, rfl, hg, hle, rfl, _⟩ := bseg_open hr (by omega)
    unfold H.bseg
    rw [if_neg h0]
    simp only [hk.2 b (hb b rfl), hg]
    rw [if_pos hle]

/-- A slice of bytes, read: its block is there. -/
def rdB (h : H) (a : Option (Nat × Nat)) (n : Nat) : Option (List UInt8) :=
  match a with
  | none => h.bseg a n
  | some (b, _) => if b < h.nx then h.bseg a n else none
theorem rdB_bseg (hr : rdB h a n = some l) : h.bseg a n = some l := by
  unfold rdB at hr
  split at hr
  · exact hr
  · split at hr
    · exact hr
    · cases hr
theorem rdB_lt (hr : rdB h a n = some l) : ∀ b, blkOf a = some b → b < h.nx := by
  intro b hb
  unfold rdB at hr
  split at hr
  · cases hb
  · cases hb
    split at hr
    · assumption
    · cases hr
theorem rdB_of (hr : h.bseg a n = some l) (hb : ∀ b, blkOf a = some b → b < h.nx) : rdB h a n = some l := by
  unfold rdB
  split
  · exact hr
  · rw [if_pos (hb _ rfl)]; exact hr
theorem rdB_kept (hr : rdB h a n = some l) (hk : Kept h g) : rdB g a n = some l :=
  rdB_of (bseg_kept (rdB_bseg hr) (rdB_lt hr) hk) fun b hb => Nat.lt_of_lt_of_le (rdB_lt hr b hb) hk.1
theorem rdB_len (hr : rdB h a n = some l) : l.length = n := bseg_len (rdB_bseg hr)
theorem rdB_take (hr : rdB h a n = some l) (hk : k ≤ n) : rdB h a k = some (l.take k) := rdB_of (bseg_take (rdB_bseg hr) hk) (rdB_lt hr)
theorem BSl.rdB {c : Nat} (o : BSl h a n c l) : rdB h a n = some l := rdB_of o.bseg fun b hb => o.lt hb

/-- An argument of bytes. -/
theorem arg_bytes {x : Dt} (hx : Dt.has .bs x) : ∃ a n c ex l, (x.arg h).1 = .sl a n c ex ∧ n ≤ c ∧ rdB (x.arg h).2 a n = some l := by
  rcases has_bs hx with rfl | ⟨l, rfl, _⟩
  · exact ⟨none, 0, 0, true, [], rfl, Nat.le_refl _, rdB_of bseg_zero fun b hb => by cases hb⟩
  · refine ⟨some (h.nx, 0), l.length, l.length, false, l, rfl, Nat.le_refl _, rdB_of ?_ fun b hb => ?_⟩
    · show H.bseg (Dt.lay (.bs l) h).2 _ _ = _
      simp only [Dt.lay]
      by_cases he : l.isEmpty = true
      · have : l = [] := by simpa using he
        subst this
        exact bseg_zero
      · rw [if_neg he]
        unfold H.bseg
        have hne : l.length ≠ 0 := by intro h0; exact he (by simp [List.eq_nil_of_length_eq_zero h0])
        rw [if_neg hne]
        have hg : (h.push (.bytes l true)).get h.nx = some (.bytes l true) := by rw [H.get_push, if_pos rfl]
        simp only [hg]
        simp
    · cases hb
      show h.nx < (Dt.lay (.bs l) h).2.nx
      simp only [Dt.lay]
      split
      · exact Nat.lt_succ_self _
      · exact Nat.lt_succ_self _

end Am
