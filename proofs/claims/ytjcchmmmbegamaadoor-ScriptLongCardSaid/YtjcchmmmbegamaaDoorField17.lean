/- What the functions of the layer 'field' answer: cutting, the static table. -/
import Derived.Test.YtjcchmmmbegamaaDoorFieldFd
import Derived.Test.YtjcchmmmbegamaaDoorCodesAll
namespace Am
set_option linter.unusedVariables false
set_option linter.unusedSimpArgs false
set_option maxRecDepth 20000
set_option maxHeartbeats 8000000
variable {pr : Prog}

def gIx1 (as : List V) (h : H) : Option (V × H) :=
  match as with
  | [.s l, .s [b]] => some (.i .i64 (fIdx l b), h)
  | _ => none
theorem ix1_ok {k k1 k2 k3 : Nat} (hw : pr.ext k = some xIndexByte) : OkF pr (c_stringslite_Index k k1 k2 k3) gIx1 := by
  intro as h v h' hg
  unfold gIx1 at hg
  split at hg
  · rename_i l b
    cases hg
    have hc := @wpCall_ext pr k _ hw
    have hx := xIndexByte_eq l b
    unfold wpF c_stringslite_Index
    refine ⟨by simp, ?_⟩
    by_cases a : [b] = l
    · have a' := eq_true a
      simp only [↓STEP, go_sem, ↓reduceIte, Nat.reduceEqDiff, Nat.reduceLeDiff, Nat.reduceLT, Nat.reduceAdd, Nat.reduceSub, Nat.reduceMul, Int.reduceLT, Int.reduceLE, Int.reduceEq, Int.reduceAdd, Int.reduceSub, Int.reduceMul, Int.reduceNeg, Int.reduceToNat, reduceCtorEq, hc, hx, a']
      exact Abs.eq (by rw [← a]; simp [fIdx]) rfl
    · simp only [↓STEP, go_sem, ↓reduceIte, Nat.reduceEqDiff, Nat.reduceLeDiff, Nat.reduceLT, Nat.reduceAdd, Nat.reduceSub, Nat.reduceMul, Int.reduceLT, Int.reduceLE, Int.reduceEq, Int.reduceAdd, Int.reduceSub, Int.reduceMul, Int.reduceNeg, Int.reduceToNat, reduceCtorEq, hc, hx, a]
      exact Abs.refl
  · cases hg

/-- What lies ahead of a byte, and behind it. -/
def cutB (b : UInt8) (l : List UInt8) : List UInt8 × List UInt8 × Bool :=
  if 0 ≤ fIdx l b then (l.take (fIdx l b).toNat, l.drop ((fIdx l b).toNat + 1), true) else (l, [], false)
def gCutS (as : List V) (h : H) : Option (V × H) :=
  match as with
  | [.s l, .s [b]] => if l.length < 1000000 then some (.tup [.s (cutB b l).1, .s (cutB b l).2.1, .b (cutB b l).2.2], h) else none
  | _ => none
theorem fIdx_lt (l : List UInt8) (b : UInt8) (h : 0 ≤ fIdx l b) : fIdx l b < l.length := by
  unfold fIdx at h ⊢
  cases hi : l.findIdx? (· == b) with
  | none => rw [hi] at h; simp at h
  | some i =>
    have := (List.findIdx?_eq_some_iff_getElem.1 hi).1
    show ((i : Int)) < _
    omega
theorem cutS_ok {k : Nat} (hw : pr.ext k = some gIx1) : OkF pr (c_stringslite_Cut k) gCutS := by
  intro as h v h' hg
  unfold gCutS at hg
  split at hg
  · rename_i l b
    split at hg
    case isFalse => cases hg
    rename_i hlen
    cases hg
    have hc := @wpCall_ext pr k _ hw
    have hx : ∀ g, gIx1 [.s l, .s [b]] g = some (.i .i64 (fIdx l b), g) := fun g => rfl
    unfold wpF c_stringslite_Cut
    refine ⟨by simp, ?_⟩
    have hlt := fIdx_lt l b
    unfold cutB
    generalize fIdx l b = i at hx hlt
    by_cases a : 0 ≤ i
    · have a' := eq_true a
      have hlt := hlt a
      have hlt' : i ≤ (l.length : Int) := by omega
      have hw1 : Go.IntKind.wrap .i64 (i + 1) = i + 1 := wrap_i64 (by omega) (by omega)
      have hlt2 : i + 1 ≤ (l.length : Int) := by omega
      have h0 : 0 ≤ i + 1 := by omega
      simp only [↓STEP, go_sem, ↓reduceIte, Nat.reduceEqDiff, Nat.reduceLeDiff, Nat.reduceLT, Nat.reduceAdd, Nat.reduceSub, Nat.reduceMul, Int.reduceLT, Int.reduceLE, Int.reduceEq, Int.reduceAdd, Int.reduceSub, Int.reduceMul, Int.reduceNeg, Int.reduceToNat, reduceCtorEq, hc, hx, a', hw1, hlt', hlt2, h0]
      exact Abs.eq (by rw [List.take_length, show (i + 1).toNat = i.toNat + 1 by omega]) rfl
    · simp only [↓STEP, go_sem, ↓reduceIte, Nat.reduceEqDiff, Nat.reduceLeDiff, Nat.reduceLT, Nat.reduceAdd, Nat.reduceSub, Nat.reduceMul, Int.reduceLT, Int.reduceLE, Int.reduceEq, Int.reduceAdd, Int.reduceSub, Int.reduceMul, Int.reduceNeg, Int.reduceToNat, reduceCtorEq, hc, hx, a]
      exact Abs.refl
  · cases hg
theorem cut_ok {k : Nat} (hw : pr.ext k = some gCutS) : OkF pr (c_strings_Cut k) gCutS := by
  intro as h v h' hg
  have hg0 := hg
  unfold gCutS at hg
  split at hg
  · rename_i l b
    split at hg
    case isFalse => cases hg
    cases hg
    have hc := @wpCall_ext pr k _ hw
    unfold wpF c_strings_Cut
    refine ⟨by simp, ?_⟩
    simp only [↓STEP, go_sem, ↓reduceIte, Nat.reduceEqDiff, Nat.reduceLeDiff, Nat.reduceLT, Nat.reduceAdd, Nat.reduceSub, Nat.reduceMul, Int.reduceLT, Int.reduceLE, Int.reduceEq, Int.reduceAdd, Int.reduceSub, Int.reduceMul, Int.reduceNeg, Int.reduceToNat, reduceCtorEq, hc, hg0]
    exact Abs.refl
  · cases hg
end Am
