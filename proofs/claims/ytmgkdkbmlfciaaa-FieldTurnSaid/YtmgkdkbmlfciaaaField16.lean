/- The law of names: FieldCase. -/
import Derived.Test.YtmgkdkbmlfciaaaField12
namespace Am
set_option linter.unusedVariables false
set_option linter.unusedSimpArgs false
set_option maxRecDepth 20000
set_option maxHeartbeats 8000000
variable {pr : Prog}

theorem fieldCase_law {kb kn : Nat} (hb : pr.ext kb = some (xConst (.b true))) (hn : pr.ext kn = some gName) (l : List UInt8) (k : Int) (c : Int) (hc0 : 0 ≤ c) (hc1 : c ≤ 255) (h : H) :
    wpF pr (c_isthmuslaw3_FieldCase kb kn) [.s l, .i .i64 k, .i .u8 c] h (fun v _ => v = .b true) := by
  have xb := @wpCall_ext pr kb _ hb
  have xn := @wpCall_ext pr kn _ hn
  unfold wpF c_isthmuslaw3_FieldCase
  refine ⟨by simp, ?_⟩
  by_cases a1 : k < 0
  · simp only [↓STEP, go_sem, ↓reduceIte, Nat.reduceEqDiff, Nat.reduceLeDiff, Nat.reduceLT, Nat.reduceAdd, Nat.reduceSub, Nat.reduceMul, Int.reduceLT, Int.reduceLE, Int.reduceEq, Int.reduceAdd, Int.reduceSub, Int.reduceMul, Int.reduceNeg, Int.reduceToNat, reduceCtorEq, xb, xConst_eq', a1]
  by_cases a2 : (l.length : Int) ≤ k
  · simp only [↓STEP, go_sem, ↓reduceIte, Nat.reduceEqDiff, Nat.reduceLeDiff, Nat.reduceLT, Nat.reduceAdd, Nat.reduceSub, Nat.reduceMul, Int.reduceLT, Int.reduceLE, Int.reduceEq, Int.reduceAdd, Int.reduceSub, Int.reduceMul, Int.reduceNeg, Int.reduceToNat, reduceCtorEq, xb, xConst_eq', a1, a2]
  by_cases a3 : (1000 : Int) < l.length
  · simp only [↓STEP, go_sem, ↓reduceIte, Nat.reduceEqDiff, Nat.reduceLeDiff, Nat.reduceLT, Nat.reduceAdd, Nat.reduceSub, Nat.reduceMul, Int.reduceLT, Int.reduceLE, Int.reduceEq, Int.reduceAdd, Int.reduceSub, Int.reduceMul, Int.reduceNeg, Int.reduceToNat, reduceCtorEq, xb, xConst_eq', a1, a2, a3]
  obtain ⟨i, rfl⟩ : ∃ n : Nat, k = n := ⟨k.toNat, by omega⟩
  have hi : i < l.length := by omega
  have hi' : (i : Int) < l.length := by omega
  obtain ⟨d, hd, hd1, hd2⟩ : ∃ d : Nat, Go.IntKind.wrap .u8 (65 + c.tmod 26) = (d : Int) ∧ 65 ≤ d ∧ d ≤ 90 := by
    have h1 : 0 ≤ c.tmod 26 := Int.tmod_nonneg _ hc0
    have h2 : c.tmod 26 < 26 := Int.tmod_lt_of_pos _ (by decide)
    refine ⟨(65 + c.tmod 26).toNat, ?_, by omega, by omega⟩
    rw [Go.IntKind.wrap]
    simp [Go.IntKind.signed, Go.IntKind.bits]
    omega
  have d0 : ((0 : Int) ≤ (d : Int)) = True := eq_true (by omega)
  have d1 : ((d : Int) < 256) = True := eq_true (by omega)
  have hl0 : ¬ l.length = 0 := by omega
  have hlm : 1 + l.length ≤ 140737488355328 := by omega
  have htk : ∀ x : UInt8, (l.set i x).take l.length = l.set i x := fun x => List.take_of_length_le (by rw [List.length_set]; exact Nat.le_refl _)
  have hch : nameCh (UInt8.ofNat d) = false := by
    have : ∀ n : Nat, n < 91 → 65 ≤ n → nameCh (UInt8.ofNat n) = false := by decide
    exact this d (by omega) hd1
  have n1 : nameB (l.set i (UInt8.ofNat d)) = false := by
    have : (l.set i (UInt8.ofNat d)).all nameCh = false := all_false (i := i) (by rw [List.length_set]; exact hi) (by rw [List.getElem_set_self]; exact hch)
    simp [nameB, this]
  have n2 : nameB (58 :: l) = false := by
    simp only [nameB, List.all_cons, show nameCh 58 = false by decide, Bool.false_and, Bool.and_false]
  simp only [↓STEP, go_sem, ↓reduceIte, Nat.reduceEqDiff, Nat.reduceLeDiff, Nat.reduceLT, Nat.reduceAdd, Nat.reduceSub, Nat.reduceMul, Int.reduceLT, Int.reduceLE, Int.reduceEq, Int.reduceAdd, Int.reduceSub, Int.reduceMul, Int.reduceNeg, Int.reduceToNat, reduceCtorEq, xb, xConst_eq', a1, a2, a3, hi, hi', xn, gName_eq, hd, d0, d1, hl0, hlm, htk, Int.toNat_natCast, List.length_set, Nat.le_refl, n1, n2]
end Am
