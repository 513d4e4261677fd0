/- endpoint: deadlines are armed. -/
import Derived.Test.YtfabolagjlhdpaaGreatEnd2
namespace Am
set_option linter.all false
set_option maxRecDepth 20000
set_option maxHeartbeats 8000000
open Go (IntKind)
variable {pr : Prog}
def setF {α : Type} (A : Nat → α) (k : Nat) (x : α) : Nat → α := fun i => if i = k then x else A i
theorem Arm_runs {kk : Nat} (xk : pr.ext kk = some gKind) {h : H} {ts k : Nat} {tm : Int} {A : Nat → Int} {B : Nat → Bool} (hk : 1 ≤ k) (hk5 : k ≤ 5) (h0 : 0 ≤ tm) (h1 : tm ≤ 1099511627776) (g : h.get ts = some (.rows 12 [tRow A B] false)) :
    wpF pr (c_timer_Set_Arm kk) [.p (some (ts, 0, 0)), .i .i64 (k : Nat), .i .i64 tm] h (fun v g => v = .i .i64 0 ∧ g = h.set ts (.rows 12 [tRow (setF A k tm) (setF B k true)] false)) := by
  have x1 := @wpCall_ext pr kk _ xk
  have y1 : ∀ h, gKind [.i .i64 (k : Nat)] h = some (.b true, h) := fun h => by
    have a : (1 : Int) ≤ k := by omega
    have b : (k : Int) ≤ 5 := by omega
    simp [gKind, a, b]
  have n0 : ¬ tm < 0 := by omega
  have n1 : ¬ tm > 1099511627776 := by omega
  unfold tRow at g
  unfold wpF c_timer_Set_Arm
  refine ⟨by simp, ?_⟩
  match k, hk, hk5 with
  | 1, _, _ =>
    have y1 : ∀ h, gKind [.i .i64 1] h = some (.b true, h) := y1
    simp only [↓STEP, go_sem, ↓reduceIte, Nat.reduceEqDiff, Nat.reduceLeDiff, Nat.reduceLT, Nat.reduceAdd, Nat.reduceSub, Nat.reduceMul, Int.reduceLT, Int.reduceLE, Int.reduceEq, Int.reduceAdd, Int.reduceSub, Int.reduceMul, Int.reduceNeg, Int.reduceToNat, reduceCtorEq, x1, y1, n0, n1, g]
    rfl
  | 2, _, _ =>
    have y1 : ∀ h, gKind [.i .i64 2] h = some (.b true, h) := y1
    simp only [↓STEP, go_sem, ↓reduceIte, Nat.reduceEqDiff, Nat.reduceLeDiff, Nat.reduceLT, Nat.reduceAdd, Nat.reduceSub, Nat.reduceMul, Int.reduceLT, Int.reduceLE, Int.reduceEq, Int.reduceAdd, Int.reduceSub, Int.reduceMul, Int.reduceNeg, Int.reduceToNat, reduceCtorEq, x1, y1, n0, n1, g]
    rfl
  | 3, _, _ =>
    have y1 : ∀ h, gKind [.i .i64 3] h = some (.b true, h) := y1
    simp only [↓STEP, go_sem, ↓reduceIte, Nat.reduceEqDiff, Nat.reduceLeDiff, Nat.reduceLT, Nat.reduceAdd, Nat.reduceSub, Nat.reduceMul, Int.reduceLT, Int.reduceLE, Int.reduceEq, Int.reduceAdd, Int.reduceSub, Int.reduceMul, Int.reduceNeg, Int.reduceToNat, reduceCtorEq, x1, y1, n0, n1, g]
    rfl
  | 4, _, _ =>
    have y1 : ∀ h, gKind [.i .i64 4] h = some (.b true, h) := y1
    simp only [↓STEP, go_sem, ↓reduceIte, Nat.reduceEqDiff, Nat.reduceLeDiff, Nat.reduceLT, Nat.reduceAdd, Nat.reduceSub, Nat.reduceMul, Int.reduceLT, Int.reduceLE, Int.reduceEq, Int.reduceAdd, Int.reduceSub, Int.reduceMul, Int.reduceNeg, Int.reduceToNat, reduceCtorEq, x1, y1, n0, n1, g]
    rfl
  | 5, _, _ =>
    have y1 : ∀ h, gKind [.i .i64 5] h = some (.b true, h) := y1
    simp only [↓STEP, go_sem, ↓reduceIte, Nat.reduceEqDiff, Nat.reduceLeDiff, Nat.reduceLT, Nat.reduceAdd, Nat.reduceSub, Nat.reduceMul, Int.reduceLT, Int.reduceLE, Int.reduceEq, Int.reduceAdd, Int.reduceSub, Int.reduceMul, Int.reduceNeg, Int.reduceToNat, reduceCtorEq, x1, y1, n0, n1, g]
    rfl
  | k + 6, _, h => exact absurd h (by omega)
theorem minV_two (a b : Int) : minV (fun x y => if y < x then y else x) (.i .i64 a) [.i .i64 b] = some (.i .i64 (min a b)) := by
  unfold minV
  simp only [if_true, minV]
  congr 2
  by_cases h : b < a
  · rw [if_pos h]; omega
  · rw [if_neg h]; omega
theorem ble_self (n : Nat) : n.ble n = true := Nat.ble_eq_true_of_le (Nat.le_refl _)
/-- The times of an end. -/
def TimesAt (c : Nat → V) (T : Nat → Int) : Prop := c 7 = .i .i64 (T 1) ∧ c 8 = .i .i64 (T 2) ∧ c 9 = .i .i64 (T 3) ∧ c 10 = .i .i64 (T 4) ∧ c 11 = .i .i64 (T 5)
theorem arm_runs {kk kA : Nat} (xk : pr.ext kk = some gKind) (xA : pr.ext kA = none) (fA : pr.fn kA = some (c_timer_Set_Arm kk)) {h : H} {e ts k : Nat} {c : Nat → V} {T : Nat → Int} {now : Int} {A : Nat → Int} {B : Nat → Bool} (hk : 1 ≤ k) (hk5 : k ≤ 5)
    (ge : h.get e = some (.rows 23 [eRow c] false)) (g : h.get ts = some (.rows 12 [tRow A B] false)) (cT : TimesAt c T) (c12 : c 12 = .i .i64 now) (c15 : c 15 = .p (some (ts, 0, 0))) (n0 : 0 ≤ now) (n1 : now ≤ 1099511627776) (h1 : T k ≤ 1099511627776) :
    wpF pr (c_endpoint_End_arm kA) [.p (some (e, 0, 0)), .i .i64 (k : Nat)] h (fun v g => v = .un ∧ g = if 0 < T k then h.set ts (.rows 12 [tRow (setF A k (min (now + T k) 1099511627776)) (setF B k true)] false) else h) := by
  obtain ⟨c7, c8, c9, c10, c11⟩ := cT
  unfold eRow at ge
  unfold wpF c_endpoint_End_arm
  refine ⟨by simp, ?_⟩
  match k, hk, hk5 with
  | 1, _, _ =>
    by_cases hT : 0 < T 1
    · have hT' : T 1 > 0 := hT
      have w : IntKind.wrap .i64 (now + T 1) = now + T 1 := wrap_i64 (by omega) (by omega)
      simp only [↓STEP, go_sem, ↓reduceIte, Nat.reduceEqDiff, Nat.reduceLeDiff, Nat.reduceLT, Nat.reduceAdd, Nat.reduceSub, Nat.reduceMul, Int.reduceLT, Int.reduceLE, Int.reduceEq, Int.reduceAdd, Int.reduceSub, Int.reduceMul, Int.reduceNeg, Int.reduceToNat, reduceCtorEq, ge, c7, c8, c9, c10, c11, c12, c15, hT', w, minV_two, ble_self]
      refine Runs.mono (c := .fn kA) («as» := [.p (some (ts, 0, 0)), .i .i64 1, .i .i64 (min (now + T 1) 1099511627776)] ++ []) (runs_of_wpF xA fA (Arm_runs xk (k := 1) (by omega) (by omega) (by omega) (by omega) g)) ?_
      rintro v g' ⟨rfl, rfl⟩
      simp only [↓STEP, go_sem, ↓reduceIte, Nat.reduceEqDiff, Nat.reduceLeDiff, Nat.reduceLT, Nat.reduceAdd, Nat.reduceSub, Nat.reduceMul, Int.reduceLT, Int.reduceLE, Int.reduceEq, Int.reduceAdd, Int.reduceSub, Int.reduceMul, Int.reduceNeg, Int.reduceToNat, reduceCtorEq, ble_self, hT]
    · have hT' : ¬ T 1 > 0 := hT
      simp only [↓STEP, go_sem, ↓reduceIte, Nat.reduceEqDiff, Nat.reduceLeDiff, Nat.reduceLT, Nat.reduceAdd, Nat.reduceSub, Nat.reduceMul, Int.reduceLT, Int.reduceLE, Int.reduceEq, Int.reduceAdd, Int.reduceSub, Int.reduceMul, Int.reduceNeg, Int.reduceToNat, reduceCtorEq, ge, c7, c8, c9, c10, c11, c12, c15, hT']
  | 2, _, _ =>
    by_cases hT : 0 < T 2
    · have hT' : T 2 > 0 := hT
      have w : IntKind.wrap .i64 (now + T 2) = now + T 2 := wrap_i64 (by omega) (by omega)
      simp only [↓STEP, go_sem, ↓reduceIte, Nat.reduceEqDiff, Nat.reduceLeDiff, Nat.reduceLT, Nat.reduceAdd, Nat.reduceSub, Nat.reduceMul, Int.reduceLT, Int.reduceLE, Int.reduceEq, Int.reduceAdd, Int.reduceSub, Int.reduceMul, Int.reduceNeg, Int.reduceToNat, reduceCtorEq, ge, c7, c8, c9, c10, c11, c12, c15, hT', w, minV_two, ble_self]
      refine Runs.mono (c := .fn kA) («as» := [.p (some (ts, 0, 0)), .i .i64 2, .i .i64 (min (now + T 2) 1099511627776)] ++ []) (runs_of_wpF xA fA (Arm_runs xk (k := 2) (by omega) (by omega) (by omega) (by omega) g)) ?_
      rintro v g' ⟨rfl, rfl⟩
      simp only [↓STEP, go_sem, ↓reduceIte, Nat.reduceEqDiff, Nat.reduceLeDiff, Nat.reduceLT, Nat.reduceAdd, Nat.reduceSub, Nat.reduceMul, Int.reduceLT, Int.reduceLE, Int.reduceEq, Int.reduceAdd, Int.reduceSub, Int.reduceMul, Int.reduceNeg, Int.reduceToNat, reduceCtorEq, ble_self, hT]
    · have hT' : ¬ T 2 > 0 := hT
      simp only [↓STEP, go_sem, ↓reduceIte, Nat.reduceEqDiff, Nat.reduceLeDiff, Nat.reduceLT, Nat.reduceAdd, Nat.reduceSub, Nat.reduceMul, Int.reduceLT, Int.reduceLE, Int.reduceEq, Int.reduceAdd, Int.reduceSub, Int.reduceMul, Int.reduceNeg, Int.reduceToNat, reduceCtorEq, ge, c7, c8, c9, c10, c11, c12, c15, hT']
  | 3, _, _ =>
    by_cases hT : 0 < T 3
    · have hT' : T 3 > 0 := hT
      have w : IntKind.wrap .i64 (now + T 3) = now + T 3 := wrap_i64 (by omega) (by omega)
      simp only [↓STEP, go_sem, ↓reduceIte, Nat.reduceEqDiff, Nat.reduceLeDiff, Nat.reduceLT, Nat.reduceAdd, Nat.reduceSub, Nat.reduceMul, Int.reduceLT, Int.reduceLE, Int.reduceEq, Int.reduceAdd, Int.reduceSub, Int.reduceMul, Int.reduceNeg, Int.reduceToNat, reduceCtorEq, ge, c7, c8, c9, c10, c11, c12, c15, hT', w, minV_two, ble_self]
      refine Runs.mono (c := .fn kA) («as» := [.p (some (ts, 0, 0)), .i .i64 3, .i .i64 (min (now + T 3) 1099511627776)] ++ []) (runs_of_wpF xA fA (Arm_runs xk (k := 3) (by omega) (by omega) (by omega) (by omega) g)) ?_
      rintro v g' ⟨rfl, rfl⟩
      simp only [↓STEP, go_sem, ↓reduceIte, Nat.reduceEqDiff, Nat.reduceLeDiff, Nat.reduceLT, Nat.reduceAdd, Nat.reduceSub, Nat.reduceMul, Int.reduceLT, Int.reduceLE, Int.reduceEq, Int.reduceAdd, Int.reduceSub, Int.reduceMul, Int.reduceNeg, Int.reduceToNat, reduceCtorEq, ble_self, hT]
    · have hT' : ¬ T 3 > 0 := hT
      simp only [↓STEP, go_sem, ↓reduceIte, Nat.reduceEqDiff, Nat.reduceLeDiff, Nat.reduceLT, Nat.reduceAdd, Nat.reduceSub, Nat.reduceMul, Int.reduceLT, Int.reduceLE, Int.reduceEq, Int.reduceAdd, Int.reduceSub, Int.reduceMul, Int.reduceNeg, Int.reduceToNat, reduceCtorEq, ge, c7, c8, c9, c10, c11, c12, c15, hT']
  | 4, _, _ =>
    by_cases hT : 0 < T 4
    · have hT' : T 4 > 0 := hT
      have w : IntKind.wrap .i64 (now + T 4) = now + T 4 := wrap_i64 (by omega) (by omega)
      simp only [↓STEP, go_sem, ↓reduceIte, Nat.reduceEqDiff, Nat.reduceLeDiff, Nat.reduceLT, Nat.reduceAdd, Nat.reduceSub, Nat.reduceMul, Int.reduceLT, Int.reduceLE, Int.reduceEq, Int.reduceAdd, Int.reduceSub, Int.reduceMul, Int.reduceNeg, Int.reduceToNat, reduceCtorEq, ge, c7, c8, c9, c10, c11, c12, c15, hT', w, minV_two, ble_self]
      refine Runs.mono (c := .fn kA) («as» := [.p (some (ts, 0, 0)), .i .i64 4, .i .i64 (min (now + T 4) 1099511627776)] ++ []) (runs_of_wpF xA fA (Arm_runs xk (k := 4) (by omega) (by omega) (by omega) (by omega) g)) ?_
      rintro v g' ⟨rfl, rfl⟩
      simp only [↓STEP, go_sem, ↓reduceIte, Nat.reduceEqDiff, Nat.reduceLeDiff, Nat.reduceLT, Nat.reduceAdd, Nat.reduceSub, Nat.reduceMul, Int.reduceLT, Int.reduceLE, Int.reduceEq, Int.reduceAdd, Int.reduceSub, Int.reduceMul, Int.reduceNeg, Int.reduceToNat, reduceCtorEq, ble_self, hT]
    · have hT' : ¬ T 4 > 0 := hT
      simp only [↓STEP, go_sem, ↓reduceIte, Nat.reduceEqDiff, Nat.reduceLeDiff, Nat.reduceLT, Nat.reduceAdd, Nat.reduceSub, Nat.reduceMul, Int.reduceLT, Int.reduceLE, Int.reduceEq, Int.reduceAdd, Int.reduceSub, Int.reduceMul, Int.reduceNeg, Int.reduceToNat, reduceCtorEq, ge, c7, c8, c9, c10, c11, c12, c15, hT']
  | 5, _, _ =>
    by_cases hT : 0 < T 5
    · have hT' : T 5 > 0 := hT
      have w : IntKind.wrap .i64 (now + T 5) = now + T 5 := wrap_i64 (by omega) (by omega)
      simp only [↓STEP, go_sem, ↓reduceIte, Nat.reduceEqDiff, Nat.reduceLeDiff, Nat.reduceLT, Nat.reduceAdd, Nat.reduceSub, Nat.reduceMul, Int.reduceLT, Int.reduceLE, Int.reduceEq, Int.reduceAdd, Int.reduceSub, Int.reduceMul, Int.reduceNeg, Int.reduceToNat, reduceCtorEq, ge, c7, c8, c9, c10, c11, c12, c15, hT', w, minV_two, ble_self]
      refine Runs.mono (c := .fn kA) («as» := [.p (some (ts, 0, 0)), .i .i64 5, .i .i64 (min (now + T 5) 1099511627776)] ++ []) (runs_of_wpF xA fA (Arm_runs xk (k := 5) (by omega) (by omega) (by omega) (by omega) g)) ?_
      rintro v g' ⟨rfl, rfl⟩
      simp only [↓STEP, go_sem, ↓reduceIte, Nat.reduceEqDiff, Nat.reduceLeDiff, Nat.reduceLT, Nat.reduceAdd, Nat.reduceSub, Nat.reduceMul, Int.reduceLT, Int.reduceLE, Int.reduceEq, Int.reduceAdd, Int.reduceSub, Int.reduceMul, Int.reduceNeg, Int.reduceToNat, reduceCtorEq, ble_self, hT]
    · have hT' : ¬ T 5 > 0 := hT
      simp only [↓STEP, go_sem, ↓reduceIte, Nat.reduceEqDiff, Nat.reduceLeDiff, Nat.reduceLT, Nat.reduceAdd, Nat.reduceSub, Nat.reduceMul, Int.reduceLT, Int.reduceLE, Int.reduceEq, Int.reduceAdd, Int.reduceSub, Int.reduceMul, Int.reduceNeg, Int.reduceToNat, reduceCtorEq, ge, c7, c8, c9, c10, c11, c12, c15, hT']
  | k + 6, _, h => exact absurd h (by omega)
end Am
