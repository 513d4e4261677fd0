/- What the functions of the layer 'field' answer: the pseudo-names at the front of a list. -/
import Derived.Test.YtibmhhdgcbaofaaDoorFieldParts
import Derived.Test.YtibmhhdgcbaofaaDoorFieldFd
import Derived.Test.YtibmhhdgcbaofaaDoorCodesAll
import Derived.Test.YtibmhhdgcbaofaaDoorAmAll3
namespace Am
set_option linter.unusedVariables false
set_option linter.unusedSimpArgs false
set_option maxRecDepth 20000
set_option maxHeartbeats 8000000
variable {pr : Prog}

/-! ### Slices of rows, read -/
/-- A slice's rows, as a heap has them, elder than all that will be made. -/
def rowsIn (h : H) (k : Nat) (a : Option (Nat × Nat)) (n : Nat) (rs : List (List V)) : Prop :=
  rs.length = n ∧ (n = 0 ∨ ∃ b r all ro, a = some (b, r) ∧ b < h.nx ∧ h.get b = some (.rows k all ro) ∧ ∀ i row, rs[i]? = some row → all[r + i]? = some row)
theorem rowsIn_inj {α : Type} {row : α → List V} (hinj : ∀ x y, row x = row y → x = y) {h : H} {k : Nat} {a : Option (Nat × Nat)} {n : Nat} {xs ys : List α} (h1 : rowsIn h k a n (xs.map row)) (h2 : rowsIn h k a n (ys.map row)) : xs = ys := by
  obtain ⟨l1, r1⟩ := h1
  obtain ⟨l2, r2⟩ := h2
  rw [List.length_map] at l1 l2
  apply List.ext_getElem (by omega)
  intro i a b
  obtain ⟨b1, s1, all1, ro1, rfl, _, g1, at1⟩ := r1.resolve_left (by omega)
  obtain ⟨b2, s2, all2, ro2, hp, _, g2, at2⟩ := r2.resolve_left (by omega)
  cases hp
  rw [g1] at g2; cases g2
  have e1 := at1 i (row xs[i]) (by rw [List.getElem?_map, List.getElem?_eq_getElem a]; rfl)
  have e2 := at2 i (row ys[i]) (by rw [List.getElem?_map, List.getElem?_eq_getElem b]; rfl)
  rw [e1] at e2
  exact hinj _ _ (Option.some.inj e2)
open Classical in
noncomputable def readRows {α : Type} (row : α → List V) (h : H) (k : Nat) (a : Option (Nat × Nat)) (n : Nat) : Option (List α) :=
  if hx : ∃ xs : List α, rowsIn h k a n (xs.map row) ∧ n < 9223372036854775808 then some hx.choose else none
theorem readRows_spec {α : Type} {row : α → List V} {h : H} {k : Nat} {a : Option (Nat × Nat)} {n : Nat} {xs : List α} (hr : readRows row h k a n = some xs) : rowsIn h k a n (xs.map row) ∧ n < 9223372036854775808 := by
  unfold readRows at hr
  split at hr
  · rename_i hx
    cases hr
    exact hx.choose_spec
  · cases hr
theorem readRows_eq {α : Type} {row : α → List V} (hinj : ∀ x y, row x = row y → x = y) {h : H} {k : Nat} {a : Option (Nat × Nat)} {n : Nat} {xs : List α} (hr : rowsIn h k a n (xs.map row)) (hn : n < 9223372036854775808) : readRows row h k a n = some xs := by
  unfold readRows
  have hx : ∃ xs : List α, rowsIn h k a n (xs.map row) ∧ n < 9223372036854775808 := ⟨xs, hr, hn⟩
  rw [dif_pos hx, rowsIn_inj hinj hx.choose_spec.1 hr]
theorem rowsIn_kept {h g : H} {k : Nat} {a : Option (Nat × Nat)} {n : Nat} {rs : List (List V)} (hr : rowsIn h k a n rs) (hk : Kept h g) : rowsIn g k a n rs := by
  obtain ⟨l, r⟩ := hr
  refine ⟨l, r.imp id ?_⟩
  rintro ⟨b, s, all, ro, e, hb, hg, hat⟩
  exact ⟨b, s, all, ro, e, Nat.lt_of_lt_of_le hb hk.1, (hk.2 b hb).trans hg, hat⟩

theorem Fd.row_inj (x y : Fd) (h : x.row = y.row) : x = y := by
  cases x; cases y
  simp only [Fd.row, List.cons.injEq, V.s.injEq, V.b.injEq, and_true] at h
  obtain ⟨rfl, rfl, rfl⟩ := h; rfl

/-! ### Fronts -/
def gPre (as : List V) (h : H) : Option (V × H) :=
  match as with
  | [.s l, .s p] => some (.b (decide (p.length ≤ l.length ∧ l.take p.length = p)), h)
  | _ => none
theorem gPre_eq (l p : List UInt8) (h : H) : gPre [.s l, .s p] h = some (.b (decide (p.length ≤ l.length ∧ l.take p.length = p)), h) := rfl
theorem prefixS_ok : OkF pr c_stringslite_HasPrefix gPre := by
  intro as h v h' hg
  unfold gPre at hg
  split at hg
  · rename_i l p
    cases hg
    unfold wpF c_stringslite_HasPrefix
    refine ⟨by simp, ?_⟩
    by_cases a : (p.length : Int) ≤ (l.length : Int)
    · have a' : p.length ≤ l.length := by omega
      simp only [↓STEP, go_sem, ↓reduceIte, Nat.reduceEqDiff, Nat.reduceLeDiff, Nat.reduceLT, Nat.reduceAdd, Nat.reduceSub, Nat.reduceMul, Int.reduceLT, Int.reduceLE, Int.reduceEq, Int.reduceAdd, Int.reduceSub, Int.reduceMul, Int.reduceNeg, Int.reduceToNat, reduceCtorEq, a]
      exact Abs.eq (by simp [a']) rfl
    · have a' : ¬ p.length ≤ l.length := by omega
      simp only [↓STEP, go_sem, ↓reduceIte, Nat.reduceEqDiff, Nat.reduceLeDiff, Nat.reduceLT, Nat.reduceAdd, Nat.reduceSub, Nat.reduceMul, Int.reduceLT, Int.reduceLE, Int.reduceEq, Int.reduceAdd, Int.reduceSub, Int.reduceMul, Int.reduceNeg, Int.reduceToNat, reduceCtorEq, a]
      exact Abs.eq (by simp [a']) rfl
  · cases hg
theorem prefix_ok {k : Nat} (hw : pr.ext k = some gPre) : OkF pr (c_strings_HasPrefix k) gPre := by
  intro as h v h' hg
  have hg0 := hg
  unfold gPre at hg
  split at hg
  · cases hg
    have hc := @wpCall_ext pr k _ hw
    unfold wpF c_strings_HasPrefix
    refine ⟨by simp, ?_⟩
    simp only [↓STEP, go_sem, ↓reduceIte, Nat.reduceEqDiff, Nat.reduceLeDiff, Nat.reduceLT, Nat.reduceAdd, Nat.reduceSub, Nat.reduceMul, Int.reduceLT, Int.reduceLE, Int.reduceEq, Int.reduceAdd, Int.reduceSub, Int.reduceMul, Int.reduceNeg, Int.reduceToNat, reduceCtorEq, hc, hg0]
    exact Abs.refl
  · cases hg
def barredB (l : List UInt8) : Bool := decide (l = [99, 111, 110, 110, 101, 99, 116, 105, 111, 110]) || decide (l = [107, 101, 101, 112, 45, 97, 108, 105, 118, 101]) || decide (l = [112, 114, 111, 120, 121, 45, 99, 111, 110, 110, 101, 99, 116, 105, 111, 110]) || decide (l = [116, 114, 97, 110, 115, 102, 101, 114, 45, 101, 110, 99, 111, 100, 105, 110, 103]) || decide (l = [117, 112, 103, 114, 97, 100, 101])
def gBarred (as : List V) (h : H) : Option (V × H) :=
  match as with
  | [.s l] => some (.b (barredB l), h)
  | _ => none
theorem gBarred_eq (l : List UInt8) (h : H) : gBarred [.s l] h = some (.b (barredB l), h) := rfl
theorem barred_ok : OkF pr c_field_barred gBarred := by
  intro as h v h' hg
  unfold gBarred at hg
  split at hg
  · rename_i l
    cases hg
    unfold wpF c_field_barred
    refine ⟨by simp, ?_⟩
    by_cases a : l = [99, 111, 110, 110, 101, 99, 116, 105, 111, 110]
    · have a' := eq_true a
      simp only [↓STEP, go_sem, ↓reduceIte, Nat.reduceEqDiff, Nat.reduceLeDiff, Nat.reduceLT, Nat.reduceAdd, Nat.reduceSub, Nat.reduceMul, Int.reduceLT, Int.reduceLE, Int.reduceEq, Int.reduceAdd, Int.reduceSub, Int.reduceMul, Int.reduceNeg, Int.reduceToNat, reduceCtorEq, a']
      exact Abs.eq (by simp [barredB, a]) rfl
    by_cases b : l = [107, 101, 101, 112, 45, 97, 108, 105, 118, 101]
    · have b' := eq_true b
      simp only [↓STEP, go_sem, ↓reduceIte, Nat.reduceEqDiff, Nat.reduceLeDiff, Nat.reduceLT, Nat.reduceAdd, Nat.reduceSub, Nat.reduceMul, Int.reduceLT, Int.reduceLE, Int.reduceEq, Int.reduceAdd, Int.reduceSub, Int.reduceMul, Int.reduceNeg, Int.reduceToNat, reduceCtorEq, a, b']
      exact Abs.eq (by simp [barredB, b]) rfl
    by_cases c : l = [112, 114, 111, 120, 121, 45, 99, 111, 110, 110, 101, 99, 116, 105, 111, 110]
    · have c' := eq_true c
      simp only [↓STEP, go_sem, ↓reduceIte, Nat.reduceEqDiff, Nat.reduceLeDiff, Nat.reduceLT, Nat.reduceAdd, Nat.reduceSub, Nat.reduceMul, Int.reduceLT, Int.reduceLE, Int.reduceEq, Int.reduceAdd, Int.reduceSub, Int.reduceMul, Int.reduceNeg, Int.reduceToNat, reduceCtorEq, a, b, c']
      exact Abs.eq (by simp [barredB, c]) rfl
    by_cases d : l = [116, 114, 97, 110, 115, 102, 101, 114, 45, 101, 110, 99, 111, 100, 105, 110, 103]
    · have d' := eq_true d
      simp only [↓STEP, go_sem, ↓reduceIte, Nat.reduceEqDiff, Nat.reduceLeDiff, Nat.reduceLT, Nat.reduceAdd, Nat.reduceSub, Nat.reduceMul, Int.reduceLT, Int.reduceLE, Int.reduceEq, Int.reduceAdd, Int.reduceSub, Int.reduceMul, Int.reduceNeg, Int.reduceToNat, reduceCtorEq, a, b, c, d']
      exact Abs.eq (by simp [barredB, d]) rfl
    by_cases e : l = [117, 112, 103, 114, 97, 100, 101]
    · have e' := eq_true e
      simp only [↓STEP, go_sem, ↓reduceIte, Nat.reduceEqDiff, Nat.reduceLeDiff, Nat.reduceLT, Nat.reduceAdd, Nat.reduceSub, Nat.reduceMul, Int.reduceLT, Int.reduceLE, Int.reduceEq, Int.reduceAdd, Int.reduceSub, Int.reduceMul, Int.reduceNeg, Int.reduceToNat, reduceCtorEq, a, b, c, d, e']
      exact Abs.eq (by simp [barredB, e]) rfl
    · simp only [↓STEP, go_sem, ↓reduceIte, Nat.reduceEqDiff, Nat.reduceLeDiff, Nat.reduceLT, Nat.reduceAdd, Nat.reduceSub, Nat.reduceMul, Int.reduceLT, Int.reduceLE, Int.reduceEq, Int.reduceAdd, Int.reduceSub, Int.reduceMul, Int.reduceNeg, Int.reduceToNat, reduceCtorEq, a, b, c, d, e]
      exact Abs.eq (by simp [barredB, a, b, c, d, e]) rfl
  · cases hg
end Am
