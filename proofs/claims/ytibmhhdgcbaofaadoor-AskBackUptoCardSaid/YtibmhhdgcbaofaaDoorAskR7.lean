/- What was asked is read again: the lines of the text, and of its fronts. -/
import Derived.Test.YtibmhhdgcbaofaaDoorAsk6
import Derived.Test.YtibmhhdgcbaofaaDoorAskR6
namespace Am
set_option linter.unusedVariables false
set_option linter.unusedSimpArgs false
set_option maxRecDepth 20000
set_option maxHeartbeats 4000000

/-! ### Lines -/
def noCR (l : List UInt8) : Prop := ∀ x ∈ l, x ≠ 13
def textL (L : List (List UInt8)) : List UInt8 := (L.map (· ++ crlf)).flatten
theorem fIdx_line {l R : List UInt8} (hl : noCR l) : fIdxS (l ++ crlf ++ R) crlf = l.length := by
  refine fIdx_crlf ?_ ?_ fun j hj hx => ?_
  · rw [List.append_assoc, List.getElem?_append_right (Nat.le_refl _), Nat.sub_self]; rfl
  · rw [List.append_assoc, List.getElem?_append_right (by omega), show l.length + 1 - l.length = 1 by omega]; rfl
  · rw [List.append_assoc, List.getElem?_append_left hj] at hx
    exact hl 13 (List.mem_of_getElem? hx.1) rfl
theorem lines_cons {l R : List UInt8} (hl : noCR l) (hne : l ≠ []) : (linesR (l ++ crlf ++ R)).1 = l :: (linesR R).1 := by
  have hn : l.length ≠ 0 := fun h => hne (List.eq_nil_of_length_eq_zero h)
  rw [linesR_cons (fIdx_line hl) hn]
  simp only
  rw [List.append_assoc, List.take_left' rfl, show l.length + 2 = (l ++ crlf).length by simp [crlf], ← List.append_assoc, List.drop_left' rfl]
theorem lines_empty (R : List UInt8) : (linesR (crlf ++ R)).1 = [[]] := by
  have := fIdx_line (l := []) (R := R) (fun x hx => by cases hx)
  rw [List.nil_append] at this
  rw [linesR_zero (by rw [this]; rfl)]
theorem lines_all : ∀ (L : List (List UInt8)), (∀ l ∈ L, noCR l ∧ l ≠ []) → ∀ R, (linesR (textL L ++ R)).1 = L ++ (linesR R).1
  | [], _, R => by simp [textL]
  | l :: L, h, R => by
    have h1 := h l (by simp)
    have : textL (l :: L) ++ R = l ++ crlf ++ (textL L ++ R) := by simp [textL]
    rw [this, lines_cons h1.1 h1.2, lines_all L (fun x hx => h x (List.mem_cons_of_mem _ hx)) R]
    rfl
theorem lines_stub {s : List UInt8} (hs : ∀ j : Nat, ¬ (s[j]? = some (13 : UInt8) ∧ s[j + 1]? = some (10 : UInt8))) : (linesR s).1 = [] := by
  rw [linesR_none (by rw [fIdx_crlf_none hs]; decide)]
theorem lines_front : ∀ (L : List (List UInt8)), (∀ l ∈ L, noCR l ∧ l ≠ []) → ∀ n, n < (textL L ++ crlf).length → ∃ j, j ≤ L.length ∧ (linesR ((textL L ++ crlf).take n)).1 = L.take j
  | [], _, n, hn => by
    refine ⟨0, Nat.le_refl _, ?_⟩
    rw [List.take_nil]
    refine lines_stub fun j hx => ?_
    have hn2 : n < 2 := hn
    have h2 := (List.getElem?_eq_some_iff.1 hx.2).1
    rw [List.length_take] at h2
    have h1 : j + 1 < n := by omega
    omega
  | l :: L, h, n, hn => by
    have h1 := h l (by simp)
    have he : textL (l :: L) ++ crlf = l ++ crlf ++ (textL L ++ crlf) := by simp [textL]
    rw [he] at hn ⊢
    by_cases hc : n < l.length + 2
    · refine ⟨0, Nat.zero_le _, ?_⟩
      rw [List.take_zero]
      refine lines_stub fun j hx => ?_
      have h2 := (List.getElem?_eq_some_iff.1 hx.2).1
      rw [List.length_take] at h2
      rw [List.getElem?_take_of_lt (by omega), List.append_assoc, List.getElem?_append_left (by omega)] at hx
      exact h1.1 13 (List.mem_of_getElem? hx.1) rfl
    · have hlc : (l ++ crlf).length = l.length + 2 := by simp [crlf]
      have ht : (l ++ crlf ++ (textL L ++ crlf)).take n = l ++ crlf ++ (textL L ++ crlf).take (n - (l.length + 2)) := by
        rw [List.take_append, hlc, List.take_of_length_le (by omega)]
      obtain ⟨j, hj, e⟩ := lines_front L (fun x hx => h x (List.mem_cons_of_mem _ hx)) (n - (l.length + 2)) (by rw [List.length_append, hlc] at hn; omega)
      refine ⟨j + 1, by simpa using hj, ?_⟩
      rw [ht, lines_cons h1.1 h1.2, e, List.take_succ_cons]
theorem usedAt_text : ∀ L : List (List UInt8), usedAt L L.length = (textL L).length
  | [] => rfl
  | l :: L => by
    have ih := usedAt_text L
    unfold usedAt textL at *
    rw [List.take_length] at ih ⊢
    simp only [List.map_cons, List.sum_cons, List.flatten_cons, List.length_append, ih, crlf, List.length_cons, List.length_nil]
theorem textL_append (A B : List (List UInt8)) : textL (A ++ B) = textL A ++ textL B := by unfold textL; rw [List.map_append, List.flatten_append]

/-! ### Bytes -/
theorem u8_all {P : UInt8 → Bool} (h : ((List.range 256).all fun n => P (UInt8.ofNat n)) = true) (c : UInt8) : P c = true := by
  have := List.all_eq_true.1 h c.toNat (List.mem_range.2 c.toNat_lt)
  simpa using this
theorem name_low (c : UInt8) (h : nameCh c = true) : lowB c = c ∧ c ≠ 58 ∧ c ≠ 13 := by
  have := u8_all (P := fun c => !nameCh c || (lowB c == c && !(c == 58) && !(c == 13))) (by decide +kernel) c
  rw [h] at this
  simpa [and_assoc] using this
theorem chG_not (c : UInt8) (h : chG (c.toNat : Int) = true) : c ≠ 32 ∧ c ≠ 13 ∧ chT (c.toNat : Int) = true ∧ bad3 c = false ∧ blankB c = false := by
  have := u8_all (P := fun c => !chG (c.toNat : Int) || (!(c == 32) && !(c == 13) && chT (c.toNat : Int) && !bad3 c && !blankB c)) (by decide +kernel) c
  rw [h] at this
  simpa [and_assoc] using this
theorem chU_not (c : UInt8) (h : chU (c.toNat : Int) = true) : c ≠ 32 ∧ c ≠ 13 := by
  have := u8_all (P := fun c => !chU (c.toNat : Int) || (!(c == 32) && !(c == 13))) (by decide +kernel) c
  rw [h] at this
  simpa using this
theorem chT_not (c : UInt8) (h : chT (c.toNat : Int) = true) : c ≠ 13 := by
  have := u8_all (P := fun c => !chT (c.toNat : Int) || !(c == 13)) (by decide +kernel) c
  rw [h] at this
  simpa using this
theorem let6_G : ((List.range 64).all fun n => chG ((let6 n).toNat : Int)) = true := by decide +kernel
theorem dec_letters : ∀ (l : List UInt8) (w k : Nat) (o : List UInt8), (l.foldl Dec.more (some ⟨w, k, o⟩)).isSome → allP chG l = true
  | [], _, _, _, _ => rfl
  | a :: l, w, k, o, h => by
    obtain ⟨v, h1, h2⟩ := val_some (d := []) h
    obtain ⟨h3, h4⟩ := let6_val6 h1
    have hg := List.all_eq_true.1 let6_G v (List.mem_range.2 h3)
    rw [h4] at hg
    have := dec_letters l _ _ _ h2
    unfold allP at *
    rw [List.all_cons, hg, this]; rfl
theorem code_G (l : List UInt8) : allP chG (codeP l) = true := dec_letters _ _ _ _ (decP_some (dec_code l))

theorem cutA_one {a b : List UInt8} {c : UInt8} (h : ∀ x ∈ a, x ≠ c) : cutA (a ++ c :: b) [c] = (a, b, true) := by
  have hi : idxA (a ++ c :: b) [c] = a.length := by
    unfold idxA fIdx
    simp only
    have : (a ++ c :: b).findIdx? (fun x => x == c) = some a.length := by
      rw [List.findIdx?_eq_some_iff_getElem]
      refine ⟨by simp, by simp, fun j hj => ?_⟩
      rw [List.getElem_append_left hj]
      simpa using h _ (List.getElem_mem hj)
    rw [this]
  unfold cutA
  rw [hi, if_pos (by omega), Int.toNat_natCast, List.take_left' rfl]
  have : (a ++ c :: b).drop (a.length + [c].length) = b := by
    rw [show a ++ c :: b = (a ++ [c]) ++ b by simp, List.drop_left' (by simp)]
  rw [this]
theorem dropC_32 {v : List UInt8} (h : ∀ x, v[0]? = some x → x ≠ 32) : dropC 32 (32 :: v) = v := by
  unfold dropC
  rw [List.dropWhile_cons_of_pos (by decide)]
  cases v with
  | nil => rfl
  | cons x v =>
    have := h x rfl
    rw [List.dropWhile_cons_of_neg]
    intro hx
    refine this (UInt8.toNat_inj.1 ?_)
    have : (x.toNat : Int) = 32 := by simpa using hx
    show x.toNat = 32
    omega
theorem lin_of {k v : List UInt8} (hk : ∀ x ∈ k, x ≠ 58) (hv : ∀ x, v[0]? = some x → x ≠ 32) : linN (k ++ [58, 32] ++ v) = lowS k ∧ linV (k ++ [58, 32] ++ v) = v ∧ (cutA (k ++ [58, 32] ++ v) [58]).2.2 = true := by
  have : cutA (k ++ [58, 32] ++ v) [58] = (k, 32 :: v, true) := by
    rw [show k ++ [58, 32] ++ v = k ++ 58 :: (32 :: v) by simp]; exact cutA_one hk
  unfold linN linV
  rw [this]
  exact ⟨rfl, dropC_32 hv, rfl⟩
theorem linB_of {k v : List UInt8} (hk : ∀ x ∈ k, x ≠ 58) (hv : ∀ x, v[0]? = some x → x ≠ 32) (hn : nameB (lowS k) = true) (hb : valueB v = true) (ht : allP chT v = true) : linB (k ++ [58, 32] ++ v) = true ∧ linN (k ++ [58, 32] ++ v) = lowS k ∧ linV (k ++ [58, 32] ++ v) = v := by
  obtain ⟨h1, h2, h3⟩ := lin_of hk hv
  refine ⟨?_, h1, h2⟩
  unfold linB
  rw [h1, h2, h3, hn, hb, ht]; rfl
theorem value_head {v : List UInt8} (h : valueB v = true) : ∀ x, v[0]? = some x → x ≠ 32 := by
  intro x hx h0
  subst h0
  cases v with
  | nil => cases hx
  | cons y v =>
    cases hx
    unfold valueB at h
    simp [blankB] at h
theorem G_value {v : List UInt8} (hl : v.length ≤ 65536) (h : allP chG v = true) : valueB v = true := by
  unfold allP at h
  have hall := List.all_eq_true.1 h
  unfold valueB
  have h1 : v.any bad3 = false := by
    rw [List.any_eq_false]; intro x hx
    rw [(chG_not x (hall x hx)).2.2.2.1]; simp
  rw [h1, decide_eq_true hl]
  cases v with
  | nil => rfl
  | cons x v =>
    have hx := (chG_not x (hall x (by simp))).2.2.2.2
    have hy := (chG_not _ (hall _ (List.getLastD_mem_cons (l := v) (a := x)))).2.2.2.2
    simp only [List.getLastD_cons, hx, hy]
    rfl
theorem G_T {v : List UInt8} (h : allP chG v = true) : allP chT v = true := by
  unfold allP at *
  rw [List.all_eq_true] at *
  exact fun x hx => (chG_not x (h x hx)).2.2.1

end Am
