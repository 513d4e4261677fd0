/- timer: deadlines. -/
import Derived.Test.YtkhnielggkcbiaaGreatDoorAmRl
import Derived.Test.YtkhnielggkcbiaaGreatDoorCodesAll
namespace Am
set_option linter.all false
set_option maxRecDepth 20000
set_option maxHeartbeats 8000000
open Go (IntKind)
variable {pr : Prog}
/-- The row of all deadlines. -/
def tRow (A : Nat → Int) (B : Nat → Bool) : List V := [.i .i64 (A 0), .b (B 0), .i .i64 (A 1), .b (B 1), .i .i64 (A 2), .b (B 2), .i .i64 (A 3), .b (B 3), .i .i64 (A 4), .b (B 4), .i .i64 (A 5), .b (B 5)]
def cRow (C : Nat → Bool) : List V := [.b (C 0), .b (C 1), .b (C 2), .b (C 3), .b (C 4), .b (C 5)]
def nx1 (A : Nat → Int) (B C : Nat → Bool) (best k : Nat) : Nat := if B k = true ∧ C k = false ∧ (best = 0 ∨ A k < A best) then k else best
def nxt (A : Nat → Int) (B C : Nat → Bool) : Nat → Nat
  | 0 => 0
  | k + 1 => nx1 A B C (nxt A B C k) (k + 1)
theorem nxt_le (A : Nat → Int) (B C : Nat → Bool) : ∀ k, nxt A B C k ≤ k
  | 0 => Nat.le_refl _
  | k + 1 => by
    have := nxt_le A B C k
    show nx1 A B C (nxt A B C k) (k + 1) ≤ k + 1
    unfold nx1; split <;> omega
def NextR : Rl := fun ys h v h' => ∃ ts A B C, ys = [.p (some (ts, 0, 0)), .agg (cRow C)] ∧ ts < h.nx ∧ h.get ts = some (.rows 12 [tRow A B] false) ∧ v = .tup [.i .i64 (nxt A B C 5 : Nat), .i .i64 (A (nxt A B C 5)), .b (decide (0 < nxt A B C 5))] ∧ h = h'
theorem tRow_inj {A A' : Nat → Int} {B B' : Nat → Bool} (h : tRow A B = tRow A' B') : ∀ i, i < 6 → A i = A' i ∧ B i = B' i := by
  unfold tRow at h
  simp only [List.cons.injEq, V.i.injEq, V.b.injEq, true_and, and_true] at h
  intro i hi
  match i, hi with
  | 0, _ => exact ⟨h.1, h.2.1⟩
  | 1, _ => exact ⟨h.2.2.1, h.2.2.2.1⟩
  | 2, _ => exact ⟨h.2.2.2.2.1, h.2.2.2.2.2.1⟩
  | 3, _ => exact ⟨h.2.2.2.2.2.2.1, h.2.2.2.2.2.2.2.1⟩
  | 4, _ => exact ⟨h.2.2.2.2.2.2.2.2.1, h.2.2.2.2.2.2.2.2.2.1⟩
  | 5, _ => exact ⟨h.2.2.2.2.2.2.2.2.2.2.1, h.2.2.2.2.2.2.2.2.2.2.2⟩
theorem cRow_inj {C C' : Nat → Bool} (h : cRow C = cRow C') : ∀ i, i < 6 → C i = C' i := by
  unfold cRow at h
  simp only [List.cons.injEq, V.b.injEq, true_and, and_true] at h
  intro i hi
  match i, hi with
  | 0, _ => exact h.1
  | 1, _ => exact h.2.1
  | 2, _ => exact h.2.2.1
  | 3, _ => exact h.2.2.2.1
  | 4, _ => exact h.2.2.2.2.1
  | 5, _ => exact h.2.2.2.2.2
theorem nxt_congr {A A' : Nat → Int} {B B' C C' : Nat → Bool} (h : ∀ i, i < 6 → A i = A' i ∧ B i = B' i) (hc : ∀ i, i < 6 → C i = C' i) : ∀ k, k < 6 → nxt A B C k = nxt A' B' C' k
  | 0, _ => rfl
  | k + 1, hk => by
    show nx1 A B C (nxt A B C k) (k + 1) = nx1 A' B' C' (nxt A' B' C' k) (k + 1)
    have := nxt_le A' B' C' k
    rw [nxt_congr h hc k (by omega)]
    unfold nx1
    rw [(h (k + 1) hk).1, (h (k + 1) hk).2, hc (k + 1) hk, (h (nxt A' B' C' k) (by omega)).1]
theorem next_one : NextR.One := by
  rintro ys h v h' w h'' ⟨ts, A, B, C, rfl, _, g, rfl, rfl⟩ ⟨ts', A', B', C', e, _, g', rfl, rfl⟩
  simp only [List.cons.injEq, V.p.injEq, V.agg.injEq, Option.some.injEq, Prod.mk.injEq, and_true] at e
  obtain ⟨rfl, e⟩ := e
  rw [g] at g'
  simp only [Option.some.injEq, Blk.rows.injEq, List.cons.injEq, and_true, true_and] at g'
  have h1 := tRow_inj g'
  have h2 := nxt_congr h1 (cRow_inj e) 5 (by omega)
  have h3 := nxt_le A' B' C' 5
  rw [h2, (h1 (nxt A' B' C' 5) (by omega)).1]
  exact ⟨rfl, rfl⟩
def NextL (h0 : H) (ts : Nat) (A : Nat → Int) (B C : Nat → Bool) (m : Nat) (t : Tm) (h : H) : Prop :=
  ∃ k, k + m = 5 ∧ t.v 8 = .i .i64 ((k : Int) + 1) ∧ t.v 7 = .i .i64 (nxt A B C k : Nat) ∧ t.v 0 = .p (some (ts, 0, 0)) ∧ t.v 3 = .p (some (h0.nx, 0, 0)) ∧ h = h0.push (.rows 6 [cRow C] false)
theorem next_ok : OkFor pr c_timer_Set_next (gRl NextR) := by
  refine OkFor.rl ?_
  rintro ys h v h' ⟨ts, A, B, C, rfl, hts, g, rfl, rfl⟩
  have hne : ts ≠ h.nx := by omega
  unfold wpF c_timer_Set_next
  refine ⟨by simp, ?_⟩
  have hcl : (cRow C).length = 6 := rfl
  have hcf : (cRow C).all V.flat = true := rfl
  simp only [↓STEP, go_sem, ↓reduceIte, Nat.reduceEqDiff, Nat.reduceLeDiff, Nat.reduceLT, Nat.reduceAdd, Nat.reduceSub, Nat.reduceMul, Int.reduceLT, Int.reduceLE, Int.reduceEq, Int.reduceAdd, Int.reduceSub, Int.reduceMul, Int.reduceNeg, Int.reduceToNat, reduceCtorEq, hcl, hcf]
  refine wpA_loop_inv (NextL h ts A B C) ?_ (m := 5) ⟨0, rfl, ?_, ?_, ?_, ?_, rfl⟩
  · rintro m t hh ⟨k, hk, t8, t7, t0, t3, rfl⟩
    have g1 : (h.push (.rows 6 [cRow C] false)).get ts = some (.rows 12 [tRow A B] false) := by rw [H.get_push, if_neg hne]; exact g
    have g2 : (h.push (.rows 6 [cRow C] false)).get h.nx = some (.rows 6 [cRow C] false) := by rw [H.get_push, if_pos rfl]
    generalize hH : h.push (.rows 6 [cRow C] false) = H1 at *
    unfold tRow at g1
    unfold cRow at g2
    by_cases hm : m = 0
    · subst hm
      obtain rfl : k = 5 := by omega
      have hb := nxt_le A B C 5
      have hA : Abs h (.tup [.i .i64 (nxt A B C 5 : Nat), .i .i64 (A (nxt A B C 5)), .b (decide (0 < nxt A B C 5))]) H1 (.tup [.i .i64 (nxt A B C 5 : Nat), .i .i64 (A (nxt A B C 5)), .b (decide (0 < nxt A B C 5))]) h := Abs.out rfl rfl (by rw [← hH]; exact Kept.refl.push)
      generalize hbe : nxt A B C 5 = b at *
      have t8 : t.v 8 = .i .i64 6 := t8
      have hb6 : b < 6 := by omega
      match b, hb6 with
      | 0, _ =>
        have t7 : t.v 7 = .i .i64 0 := t7
        simp only [↓STEP, go_sem, ↓reduceIte, Nat.reduceEqDiff, Nat.reduceLeDiff, Nat.reduceLT, Nat.reduceAdd, Nat.reduceSub, Nat.reduceMul, Int.reduceLT, Int.reduceLE, Int.reduceEq, Int.reduceAdd, Int.reduceSub, Int.reduceMul, Int.reduceNeg, Int.reduceToNat, reduceCtorEq, t8, t7, t0, t3, g1, g2]
        exact hA
      | 1, _ =>
        have t7 : t.v 7 = .i .i64 1 := t7
        simp only [↓STEP, go_sem, ↓reduceIte, Nat.reduceEqDiff, Nat.reduceLeDiff, Nat.reduceLT, Nat.reduceAdd, Nat.reduceSub, Nat.reduceMul, Int.reduceLT, Int.reduceLE, Int.reduceEq, Int.reduceAdd, Int.reduceSub, Int.reduceMul, Int.reduceNeg, Int.reduceToNat, reduceCtorEq, t8, t7, t0, t3, g1, g2]
        exact hA
      | 2, _ =>
        have t7 : t.v 7 = .i .i64 2 := t7
        simp only [↓STEP, go_sem, ↓reduceIte, Nat.reduceEqDiff, Nat.reduceLeDiff, Nat.reduceLT, Nat.reduceAdd, Nat.reduceSub, Nat.reduceMul, Int.reduceLT, Int.reduceLE, Int.reduceEq, Int.reduceAdd, Int.reduceSub, Int.reduceMul, Int.reduceNeg, Int.reduceToNat, reduceCtorEq, t8, t7, t0, t3, g1, g2]
        exact hA
      | 3, _ =>
        have t7 : t.v 7 = .i .i64 3 := t7
        simp only [↓STEP, go_sem, ↓reduceIte, Nat.reduceEqDiff, Nat.reduceLeDiff, Nat.reduceLT, Nat.reduceAdd, Nat.reduceSub, Nat.reduceMul, Int.reduceLT, Int.reduceLE, Int.reduceEq, Int.reduceAdd, Int.reduceSub, Int.reduceMul, Int.reduceNeg, Int.reduceToNat, reduceCtorEq, t8, t7, t0, t3, g1, g2]
        exact hA
      | 4, _ =>
        have t7 : t.v 7 = .i .i64 4 := t7
        simp only [↓STEP, go_sem, ↓reduceIte, Nat.reduceEqDiff, Nat.reduceLeDiff, Nat.reduceLT, Nat.reduceAdd, Nat.reduceSub, Nat.reduceMul, Int.reduceLT, Int.reduceLE, Int.reduceEq, Int.reduceAdd, Int.reduceSub, Int.reduceMul, Int.reduceNeg, Int.reduceToNat, reduceCtorEq, t8, t7, t0, t3, g1, g2]
        exact hA
      | 5, _ =>
        have t7 : t.v 7 = .i .i64 5 := t7
        simp only [↓STEP, go_sem, ↓reduceIte, Nat.reduceEqDiff, Nat.reduceLeDiff, Nat.reduceLT, Nat.reduceAdd, Nat.reduceSub, Nat.reduceMul, Int.reduceLT, Int.reduceLE, Int.reduceEq, Int.reduceAdd, Int.reduceSub, Int.reduceMul, Int.reduceNeg, Int.reduceToNat, reduceCtorEq, t8, t7, t0, t3, g1, g2]
        exact hA
    · have hk5 : k < 5 := by omega
      have fin : ∀ (b2 : Nat) (t2 : Tm), nxt A B C (k + 1) = b2 → t2.v 8 = .i .i64 ((k : Int) + 1 + 1) → t2.v 7 = .i .i64 (b2 : Nat) → t2.v 0 = .p (some (ts, 0, 0)) → t2.v 3 = .p (some (h.nx, 0, 0)) → ∃ m', m' < m ∧ NextL h ts A B C m' t2 H1 := fun b2 t2 e1 e2 e3 e4 e5 =>
        ⟨m - 1, by omega, k + 1, by omega, e2, by rw [e1]; exact e3, e4, e5, hH.symm⟩
      have hb := nxt_le A B C k
      have hn : nxt A B C (k + 1) = nx1 A B C (nxt A B C k) (k + 1) := rfl
      unfold nx1 at hn
      generalize hbe : nxt A B C k = b at *
      match k, b, hk5, hb with
      | 0, 0, _, _ =>
        have t8 : t.v 8 = .i .i64 1 := t8
        have t7 : t.v 7 = .i .i64 0 := t7
        cases hB : B 1 with
        | false =>
          simp only [↓STEP, go_sem, ↓reduceIte, Nat.reduceEqDiff, Nat.reduceLeDiff, Nat.reduceLT, Nat.reduceAdd, Nat.reduceSub, Nat.reduceMul, Int.reduceLT, Int.reduceLE, Int.reduceEq, Int.reduceAdd, Int.reduceSub, Int.reduceMul, Int.reduceNeg, Int.reduceToNat, reduceCtorEq, t8, t7, t0, t3, g1, g2, hB]
          refine fin 0 _ (hn.trans (if_neg (by simp [hB]))) ?_ ?_ ?_ ?_ <;> simp only [↓STEP, go_sem, ↓reduceIte, Nat.reduceEqDiff, Nat.reduceLeDiff, Nat.reduceLT, Nat.reduceAdd, Nat.reduceSub, Nat.reduceMul, Int.reduceLT, Int.reduceLE, Int.reduceEq, Int.reduceAdd, Int.reduceSub, Int.reduceMul, Int.reduceNeg, Int.reduceToNat, reduceCtorEq, t7, t0, t3] <;> rfl
        | true => cases hC : C 1 with
          | true =>
            simp only [↓STEP, go_sem, ↓reduceIte, Nat.reduceEqDiff, Nat.reduceLeDiff, Nat.reduceLT, Nat.reduceAdd, Nat.reduceSub, Nat.reduceMul, Int.reduceLT, Int.reduceLE, Int.reduceEq, Int.reduceAdd, Int.reduceSub, Int.reduceMul, Int.reduceNeg, Int.reduceToNat, reduceCtorEq, t8, t7, t0, t3, g1, g2, hB, hC]
            refine fin 0 _ (hn.trans (if_neg (by simp [hC]))) ?_ ?_ ?_ ?_ <;> simp only [↓STEP, go_sem, ↓reduceIte, Nat.reduceEqDiff, Nat.reduceLeDiff, Nat.reduceLT, Nat.reduceAdd, Nat.reduceSub, Nat.reduceMul, Int.reduceLT, Int.reduceLE, Int.reduceEq, Int.reduceAdd, Int.reduceSub, Int.reduceMul, Int.reduceNeg, Int.reduceToNat, reduceCtorEq, t7, t0, t3] <;> rfl
          | false =>
            simp only [↓STEP, go_sem, ↓reduceIte, Nat.reduceEqDiff, Nat.reduceLeDiff, Nat.reduceLT, Nat.reduceAdd, Nat.reduceSub, Nat.reduceMul, Int.reduceLT, Int.reduceLE, Int.reduceEq, Int.reduceAdd, Int.reduceSub, Int.reduceMul, Int.reduceNeg, Int.reduceToNat, reduceCtorEq, t8, t7, t0, t3, g1, g2, hB, hC]
            refine fin 1 _ (hn.trans (if_pos ⟨hB, hC, .inl rfl⟩)) ?_ ?_ ?_ ?_ <;> simp only [↓STEP, go_sem, ↓reduceIte, Nat.reduceEqDiff, Nat.reduceLeDiff, Nat.reduceLT, Nat.reduceAdd, Nat.reduceSub, Nat.reduceMul, Int.reduceLT, Int.reduceLE, Int.reduceEq, Int.reduceAdd, Int.reduceSub, Int.reduceMul, Int.reduceNeg, Int.reduceToNat, reduceCtorEq, t7, t0, t3] <;> rfl
      | 1, 0, _, _ =>
        have t8 : t.v 8 = .i .i64 2 := t8
        have t7 : t.v 7 = .i .i64 0 := t7
        cases hB : B 2 with
        | false =>
          simp only [↓STEP, go_sem, ↓reduceIte, Nat.reduceEqDiff, Nat.reduceLeDiff, Nat.reduceLT, Nat.reduceAdd, Nat.reduceSub, Nat.reduceMul, Int.reduceLT, Int.reduceLE, Int.reduceEq, Int.reduceAdd, Int.reduceSub, Int.reduceMul, Int.reduceNeg, Int.reduceToNat, reduceCtorEq, t8, t7, t0, t3, g1, g2, hB]
          refine fin 0 _ (hn.trans (if_neg (by simp [hB]))) ?_ ?_ ?_ ?_ <;> simp only [↓STEP, go_sem, ↓reduceIte, Nat.reduceEqDiff, Nat.reduceLeDiff, Nat.reduceLT, Nat.reduceAdd, Nat.reduceSub, Nat.reduceMul, Int.reduceLT, Int.reduceLE, Int.reduceEq, Int.reduceAdd, Int.reduceSub, Int.reduceMul, Int.reduceNeg, Int.reduceToNat, reduceCtorEq, t7, t0, t3] <;> rfl
        | true => cases hC : C 2 with
          | true =>
            simp only [↓STEP, go_sem, ↓reduceIte, Nat.reduceEqDiff, Nat.reduceLeDiff, Nat.reduceLT, Nat.reduceAdd, Nat.reduceSub, Nat.reduceMul, Int.reduceLT, Int.reduceLE, Int.reduceEq, Int.reduceAdd, Int.reduceSub, Int.reduceMul, Int.reduceNeg, Int.reduceToNat, reduceCtorEq, t8, t7, t0, t3, g1, g2, hB, hC]
            refine fin 0 _ (hn.trans (if_neg (by simp [hC]))) ?_ ?_ ?_ ?_ <;> simp only [↓STEP, go_sem, ↓reduceIte, Nat.reduceEqDiff, Nat.reduceLeDiff, Nat.reduceLT, Nat.reduceAdd, Nat.reduceSub, Nat.reduceMul, Int.reduceLT, Int.reduceLE, Int.reduceEq, Int.reduceAdd, Int.reduceSub, Int.reduceMul, Int.reduceNeg, Int.reduceToNat, reduceCtorEq, t7, t0, t3] <;> rfl
          | false =>
            simp only [↓STEP, go_sem, ↓reduceIte, Nat.reduceEqDiff, Nat.reduceLeDiff, Nat.reduceLT, Nat.reduceAdd, Nat.reduceSub, Nat.reduceMul, Int.reduceLT, Int.reduceLE, Int.reduceEq, Int.reduceAdd, Int.reduceSub, Int.reduceMul, Int.reduceNeg, Int.reduceToNat, reduceCtorEq, t8, t7, t0, t3, g1, g2, hB, hC]
            refine fin 2 _ (hn.trans (if_pos ⟨hB, hC, .inl rfl⟩)) ?_ ?_ ?_ ?_ <;> simp only [↓STEP, go_sem, ↓reduceIte, Nat.reduceEqDiff, Nat.reduceLeDiff, Nat.reduceLT, Nat.reduceAdd, Nat.reduceSub, Nat.reduceMul, Int.reduceLT, Int.reduceLE, Int.reduceEq, Int.reduceAdd, Int.reduceSub, Int.reduceMul, Int.reduceNeg, Int.reduceToNat, reduceCtorEq, t7, t0, t3] <;> rfl
      | 1, 1, _, _ =>
        have t8 : t.v 8 = .i .i64 2 := t8
        have t7 : t.v 7 = .i .i64 1 := t7
        cases hB : B 2 with
        | false =>
          simp only [↓STEP, go_sem, ↓reduceIte, Nat.reduceEqDiff, Nat.reduceLeDiff, Nat.reduceLT, Nat.reduceAdd, Nat.reduceSub, Nat.reduceMul, Int.reduceLT, Int.reduceLE, Int.reduceEq, Int.reduceAdd, Int.reduceSub, Int.reduceMul, Int.reduceNeg, Int.reduceToNat, reduceCtorEq, t8, t7, t0, t3, g1, g2, hB]
          refine fin 1 _ (hn.trans (if_neg (by simp [hB]))) ?_ ?_ ?_ ?_ <;> simp only [↓STEP, go_sem, ↓reduceIte, Nat.reduceEqDiff, Nat.reduceLeDiff, Nat.reduceLT, Nat.reduceAdd, Nat.reduceSub, Nat.reduceMul, Int.reduceLT, Int.reduceLE, Int.reduceEq, Int.reduceAdd, Int.reduceSub, Int.reduceMul, Int.reduceNeg, Int.reduceToNat, reduceCtorEq, t7, t0, t3] <;> rfl
        | true => cases hC : C 2 with
          | true =>
            simp only [↓STEP, go_sem, ↓reduceIte, Nat.reduceEqDiff, Nat.reduceLeDiff, Nat.reduceLT, Nat.reduceAdd, Nat.reduceSub, Nat.reduceMul, Int.reduceLT, Int.reduceLE, Int.reduceEq, Int.reduceAdd, Int.reduceSub, Int.reduceMul, Int.reduceNeg, Int.reduceToNat, reduceCtorEq, t8, t7, t0, t3, g1, g2, hB, hC]
            refine fin 1 _ (hn.trans (if_neg (by simp [hC]))) ?_ ?_ ?_ ?_ <;> simp only [↓STEP, go_sem, ↓reduceIte, Nat.reduceEqDiff, Nat.reduceLeDiff, Nat.reduceLT, Nat.reduceAdd, Nat.reduceSub, Nat.reduceMul, Int.reduceLT, Int.reduceLE, Int.reduceEq, Int.reduceAdd, Int.reduceSub, Int.reduceMul, Int.reduceNeg, Int.reduceToNat, reduceCtorEq, t7, t0, t3] <;> rfl
          | false =>
            by_cases hA : A 2 < A 1
            · simp only [↓STEP, go_sem, ↓reduceIte, Nat.reduceEqDiff, Nat.reduceLeDiff, Nat.reduceLT, Nat.reduceAdd, Nat.reduceSub, Nat.reduceMul, Int.reduceLT, Int.reduceLE, Int.reduceEq, Int.reduceAdd, Int.reduceSub, Int.reduceMul, Int.reduceNeg, Int.reduceToNat, reduceCtorEq, t8, t7, t0, t3, g1, g2, hB, hC, hA]
              refine fin 2 _ (hn.trans (if_pos ⟨hB, hC, .inr hA⟩)) ?_ ?_ ?_ ?_ <;> simp only [↓STEP, go_sem, ↓reduceIte, Nat.reduceEqDiff, Nat.reduceLeDiff, Nat.reduceLT, Nat.reduceAdd, Nat.reduceSub, Nat.reduceMul, Int.reduceLT, Int.reduceLE, Int.reduceEq, Int.reduceAdd, Int.reduceSub, Int.reduceMul, Int.reduceNeg, Int.reduceToNat, reduceCtorEq, t7, t0, t3] <;> rfl
            · simp only [↓STEP, go_sem, ↓reduceIte, Nat.reduceEqDiff, Nat.reduceLeDiff, Nat.reduceLT, Nat.reduceAdd, Nat.reduceSub, Nat.reduceMul, Int.reduceLT, Int.reduceLE, Int.reduceEq, Int.reduceAdd, Int.reduceSub, Int.reduceMul, Int.reduceNeg, Int.reduceToNat, reduceCtorEq, t8, t7, t0, t3, g1, g2, hB, hC, hA]
              refine fin 1 _ (hn.trans (if_neg (by rintro ⟨_, _, q | q⟩; exact absurd q (by decide); exact hA q))) ?_ ?_ ?_ ?_ <;> simp only [↓STEP, go_sem, ↓reduceIte, Nat.reduceEqDiff, Nat.reduceLeDiff, Nat.reduceLT, Nat.reduceAdd, Nat.reduceSub, Nat.reduceMul, Int.reduceLT, Int.reduceLE, Int.reduceEq, Int.reduceAdd, Int.reduceSub, Int.reduceMul, Int.reduceNeg, Int.reduceToNat, reduceCtorEq, t7, t0, t3] <;> rfl
      | 2, 0, _, _ =>
        have t8 : t.v 8 = .i .i64 3 := t8
        have t7 : t.v 7 = .i .i64 0 := t7
        cases hB : B 3 with
        | false =>
          simp only [↓STEP, go_sem, ↓reduceIte, Nat.reduceEqDiff, Nat.reduceLeDiff, Nat.reduceLT, Nat.reduceAdd, Nat.reduceSub, Nat.reduceMul, Int.reduceLT, Int.reduceLE, Int.reduceEq, Int.reduceAdd, Int.reduceSub, Int.reduceMul, Int.reduceNeg, Int.reduceToNat, reduceCtorEq, t8, t7, t0, t3, g1, g2, hB]
          refine fin 0 _ (hn.trans (if_neg (by simp [hB]))) ?_ ?_ ?_ ?_ <;> simp only [↓STEP, go_sem, ↓reduceIte, Nat.reduceEqDiff, Nat.reduceLeDiff, Nat.reduceLT, Nat.reduceAdd, Nat.reduceSub, Nat.reduceMul, Int.reduceLT, Int.reduceLE, Int.reduceEq, Int.reduceAdd, Int.reduceSub, Int.reduceMul, Int.reduceNeg, Int.reduceToNat, reduceCtorEq, t7, t0, t3] <;> rfl
        | true => cases hC : C 3 with
          | true =>
            simp only [↓STEP, go_sem, ↓reduceIte, Nat.reduceEqDiff, Nat.reduceLeDiff, Nat.reduceLT, Nat.reduceAdd, Nat.reduceSub, Nat.reduceMul, Int.reduceLT, Int.reduceLE, Int.reduceEq, Int.reduceAdd, Int.reduceSub, Int.reduceMul, Int.reduceNeg, Int.reduceToNat, reduceCtorEq, t8, t7, t0, t3, g1, g2, hB, hC]
            refine fin 0 _ (hn.trans (if_neg (by simp [hC]))) ?_ ?_ ?_ ?_ <;> simp only [↓STEP, go_sem, ↓reduceIte, Nat.reduceEqDiff, Nat.reduceLeDiff, Nat.reduceLT, Nat.reduceAdd, Nat.reduceSub, Nat.reduceMul, Int.reduceLT, Int.reduceLE, Int.reduceEq, Int.reduceAdd, Int.reduceSub, Int.reduceMul, Int.reduceNeg, Int.reduceToNat, reduceCtorEq, t7, t0, t3] <;> rfl
          | false =>
            simp only [↓STEP, go_sem, ↓reduceIte, Nat.reduceEqDiff, Nat.reduceLeDiff, Nat.reduceLT, Nat.reduceAdd, Nat.reduceSub, Nat.reduceMul, Int.reduceLT, Int.reduceLE, Int.reduceEq, Int.reduceAdd, Int.reduceSub, Int.reduceMul, Int.reduceNeg, Int.reduceToNat, reduceCtorEq, t8, t7, t0, t3, g1, g2, hB, hC]
            refine fin 3 _ (hn.trans (if_pos ⟨hB, hC, .inl rfl⟩)) ?_ ?_ ?_ ?_ <;> simp only [↓STEP, go_sem, ↓reduceIte, Nat.reduceEqDiff, Nat.reduceLeDiff, Nat.reduceLT, Nat.reduceAdd, Nat.reduceSub, Nat.reduceMul, Int.reduceLT, Int.reduceLE, Int.reduceEq, Int.reduceAdd, Int.reduceSub, Int.reduceMul, Int.reduceNeg, Int.reduceToNat, reduceCtorEq, t7, t0, t3] <;> rfl
      | 2, 1, _, _ =>
        have t8 : t.v 8 = .i .i64 3 := t8
        have t7 : t.v 7 = .i .i64 1 := t7
        cases hB : B 3 with
        | false =>
          simp only [↓STEP, go_sem, ↓reduceIte, Nat.reduceEqDiff, Nat.reduceLeDiff, Nat.reduceLT, Nat.reduceAdd, Nat.reduceSub, Nat.reduceMul, Int.reduceLT, Int.reduceLE, Int.reduceEq, Int.reduceAdd, Int.reduceSub, Int.reduceMul, Int.reduceNeg, Int.reduceToNat, reduceCtorEq, t8, t7, t0, t3, g1, g2, hB]
          refine fin 1 _ (hn.trans (if_neg (by simp [hB]))) ?_ ?_ ?_ ?_ <;> simp only [↓STEP, go_sem, ↓reduceIte, Nat.reduceEqDiff, Nat.reduceLeDiff, Nat.reduceLT, Nat.reduceAdd, Nat.reduceSub, Nat.reduceMul, Int.reduceLT, Int.reduceLE, Int.reduceEq, Int.reduceAdd, Int.reduceSub, Int.reduceMul, Int.reduceNeg, Int.reduceToNat, reduceCtorEq, t7, t0, t3] <;> rfl
        | true => cases hC : C 3 with
          | true =>
            simp only [↓STEP, go_sem, ↓reduceIte, Nat.reduceEqDiff, Nat.reduceLeDiff, Nat.reduceLT, Nat.reduceAdd, Nat.reduceSub, Nat.reduceMul, Int.reduceLT, Int.reduceLE, Int.reduceEq, Int.reduceAdd, Int.reduceSub, Int.reduceMul, Int.reduceNeg, Int.reduceToNat, reduceCtorEq, t8, t7, t0, t3, g1, g2, hB, hC]
            refine fin 1 _ (hn.trans (if_neg (by simp [hC]))) ?_ ?_ ?_ ?_ <;> simp only [↓STEP, go_sem, ↓reduceIte, Nat.reduceEqDiff, Nat.reduceLeDiff, Nat.reduceLT, Nat.reduceAdd, Nat.reduceSub, Nat.reduceMul, Int.reduceLT, Int.reduceLE, Int.reduceEq, Int.reduceAdd, Int.reduceSub, Int.reduceMul, Int.reduceNeg, Int.reduceToNat, reduceCtorEq, t7, t0, t3] <;> rfl
          | false =>
            by_cases hA : A 3 < A 1
            · simp only [↓STEP, go_sem, ↓reduceIte, Nat.reduceEqDiff, Nat.reduceLeDiff, Nat.reduceLT, Nat.reduceAdd, Nat.reduceSub, Nat.reduceMul, Int.reduceLT, Int.reduceLE, Int.reduceEq, Int.reduceAdd, Int.reduceSub, Int.reduceMul, Int.reduceNeg, Int.reduceToNat, reduceCtorEq, t8, t7, t0, t3, g1, g2, hB, hC, hA]
              refine fin 3 _ (hn.trans (if_pos ⟨hB, hC, .inr hA⟩)) ?_ ?_ ?_ ?_ <;> simp only [↓STEP, go_sem, ↓reduceIte, Nat.reduceEqDiff, Nat.reduceLeDiff, Nat.reduceLT, Nat.reduceAdd, Nat.reduceSub, Nat.reduceMul, Int.reduceLT, Int.reduceLE, Int.reduceEq, Int.reduceAdd, Int.reduceSub, Int.reduceMul, Int.reduceNeg, Int.reduceToNat, reduceCtorEq, t7, t0, t3] <;> rfl
            · simp only [↓STEP, go_sem, ↓reduceIte, Nat.reduceEqDiff, Nat.reduceLeDiff, Nat.reduceLT, Nat.reduceAdd, Nat.reduceSub, Nat.reduceMul, Int.reduceLT, Int.reduceLE, Int.reduceEq, Int.reduceAdd, Int.reduceSub, Int.reduceMul, Int.reduceNeg, Int.reduceToNat, reduceCtorEq, t8, t7, t0, t3, g1, g2, hB, hC, hA]
              refine fin 1 _ (hn.trans (if_neg (by rintro ⟨_, _, q | q⟩; exact absurd q (by decide); exact hA q))) ?_ ?_ ?_ ?_ <;> simp only [↓STEP, go_sem, ↓reduceIte, Nat.reduceEqDiff, Nat.reduceLeDiff, Nat.reduceLT, Nat.reduceAdd, Nat.reduceSub, Nat.reduceMul, Int.reduceLT, Int.reduceLE, Int.reduceEq, Int.reduceAdd, Int.reduceSub, Int.reduceMul, Int.reduceNeg, Int.reduceToNat, reduceCtorEq, t7, t0, t3] <;> rfl
      | 2, 2, _, _ =>
        have t8 : t.v 8 = .i .i64 3 := t8
        have t7 : t.v 7 = .i .i64 2 := t7
        cases hB : B 3 with
        | false =>
          simp only [↓STEP, go_sem, ↓reduceIte, Nat.reduceEqDiff, Nat.reduceLeDiff, Nat.reduceLT, Nat.reduceAdd, Nat.reduceSub, Nat.reduceMul, Int.reduceLT, Int.reduceLE, Int.reduceEq, Int.reduceAdd, Int.reduceSub, Int.reduceMul, Int.reduceNeg, Int.reduceToNat, reduceCtorEq, t8, t7, t0, t3, g1, g2, hB]
          refine fin 2 _ (hn.trans (if_neg (by simp [hB]))) ?_ ?_ ?_ ?_ <;> simp only [↓STEP, go_sem, ↓reduceIte, Nat.reduceEqDiff, Nat.reduceLeDiff, Nat.reduceLT, Nat.reduceAdd, Nat.reduceSub, Nat.reduceMul, Int.reduceLT, Int.reduceLE, Int.reduceEq, Int.reduceAdd, Int.reduceSub, Int.reduceMul, Int.reduceNeg, Int.reduceToNat, reduceCtorEq, t7, t0, t3] <;> rfl
        | true => cases hC : C 3 with
          | true =>
            simp only [↓STEP, go_sem, ↓reduceIte, Nat.reduceEqDiff, Nat.reduceLeDiff, Nat.reduceLT, Nat.reduceAdd, Nat.reduceSub, Nat.reduceMul, Int.reduceLT, Int.reduceLE, Int.reduceEq, Int.reduceAdd, Int.reduceSub, Int.reduceMul, Int.reduceNeg, Int.reduceToNat, reduceCtorEq, t8, t7, t0, t3, g1, g2, hB, hC]
            refine fin 2 _ (hn.trans (if_neg (by simp [hC]))) ?_ ?_ ?_ ?_ <;> simp only [↓STEP, go_sem, ↓reduceIte, Nat.reduceEqDiff, Nat.reduceLeDiff, Nat.reduceLT, Nat.reduceAdd, Nat.reduceSub, Nat.reduceMul, Int.reduceLT, Int.reduceLE, Int.reduceEq, Int.reduceAdd, Int.reduceSub, Int.reduceMul, Int.reduceNeg, Int.reduceToNat, reduceCtorEq, t7, t0, t3] <;> rfl
          | false =>
            by_cases hA : A 3 < A 2
            · simp only [↓STEP, go_sem, ↓reduceIte, Nat.reduceEqDiff, Nat.reduceLeDiff, Nat.reduceLT, Nat.reduceAdd, Nat.reduceSub, Nat.reduceMul, Int.reduceLT, Int.reduceLE, Int.reduceEq, Int.reduceAdd, Int.reduceSub, Int.reduceMul, Int.reduceNeg, Int.reduceToNat, reduceCtorEq, t8, t7, t0, t3, g1, g2, hB, hC, hA]
              refine fin 3 _ (hn.trans (if_pos ⟨hB, hC, .inr hA⟩)) ?_ ?_ ?_ ?_ <;> simp only [↓STEP, go_sem, ↓reduceIte, Nat.reduceEqDiff, Nat.reduceLeDiff, Nat.reduceLT, Nat.reduceAdd, Nat.reduceSub, Nat.reduceMul, Int.reduceLT, Int.reduceLE, Int.reduceEq, Int.reduceAdd, Int.reduceSub, Int.reduceMul, Int.reduceNeg, Int.reduceToNat, reduceCtorEq, t7, t0, t3] <;> rfl
            · simp only [↓STEP, go_sem, ↓reduceIte, Nat.reduceEqDiff, Nat.reduceLeDiff, Nat.reduceLT, Nat.reduceAdd, Nat.reduceSub, Nat.reduceMul, Int.reduceLT, Int.reduceLE, Int.reduceEq, Int.reduceAdd, Int.reduceSub, Int.reduceMul, Int.reduceNeg, Int.reduceToNat, reduceCtorEq, t8, t7, t0, t3, g1, g2, hB, hC, hA]
              refine fin 2 _ (hn.trans (if_neg (by rintro ⟨_, _, q | q⟩; exact absurd q (by decide); exact hA q))) ?_ ?_ ?_ ?_ <;> simp only [↓STEP, go_sem, ↓reduceIte, Nat.reduceEqDiff, Nat.reduceLeDiff, Nat.reduceLT, Nat.reduceAdd, Nat.reduceSub, Nat.reduceMul, Int.reduceLT, Int.reduceLE, Int.reduceEq, Int.reduceAdd, Int.reduceSub, Int.reduceMul, Int.reduceNeg, Int.reduceToNat, reduceCtorEq, t7, t0, t3] <;> rfl
      | 3, 0, _, _ =>
        have t8 : t.v 8 = .i .i64 4 := t8
        have t7 : t.v 7 = .i .i64 0 := t7
        cases hB : B 4 with
        | false =>
          simp only [↓STEP, go_sem, ↓reduceIte, Nat.reduceEqDiff, Nat.reduceLeDiff, Nat.reduceLT, Nat.reduceAdd, Nat.reduceSub, Nat.reduceMul, Int.reduceLT, Int.reduceLE, Int.reduceEq, Int.reduceAdd, Int.reduceSub, Int.reduceMul, Int.reduceNeg, Int.reduceToNat, reduceCtorEq, t8, t7, t0, t3, g1, g2, hB]
          refine fin 0 _ (hn.trans (if_neg (by simp [hB]))) ?_ ?_ ?_ ?_ <;> simp only [↓STEP, go_sem, ↓reduceIte, Nat.reduceEqDiff, Nat.reduceLeDiff, Nat.reduceLT, Nat.reduceAdd, Nat.reduceSub, Nat.reduceMul, Int.reduceLT, Int.reduceLE, Int.reduceEq, Int.reduceAdd, Int.reduceSub, Int.reduceMul, Int.reduceNeg, Int.reduceToNat, reduceCtorEq, t7, t0, t3] <;> rfl
        | true => cases hC : C 4 with
          | true =>
            simp only [↓STEP, go_sem, ↓reduceIte, Nat.reduceEqDiff, Nat.reduceLeDiff, Nat.reduceLT, Nat.reduceAdd, Nat.reduceSub, Nat.reduceMul, Int.reduceLT, Int.reduceLE, Int.reduceEq, Int.reduceAdd, Int.reduceSub, Int.reduceMul, Int.reduceNeg, Int.reduceToNat, reduceCtorEq, t8, t7, t0, t3, g1, g2, hB, hC]
            refine fin 0 _ (hn.trans (if_neg (by simp [hC]))) ?_ ?_ ?_ ?_ <;> simp only [↓STEP, go_sem, ↓reduceIte, Nat.reduceEqDiff, Nat.reduceLeDiff, Nat.reduceLT, Nat.reduceAdd, Nat.reduceSub, Nat.reduceMul, Int.reduceLT, Int.reduceLE, Int.reduceEq, Int.reduceAdd, Int.reduceSub, Int.reduceMul, Int.reduceNeg, Int.reduceToNat, reduceCtorEq, t7, t0, t3] <;> rfl
          | false =>
            simp only [↓STEP, go_sem, ↓reduceIte, Nat.reduceEqDiff, Nat.reduceLeDiff, Nat.reduceLT, Nat.reduceAdd, Nat.reduceSub, Nat.reduceMul, Int.reduceLT, Int.reduceLE, Int.reduceEq, Int.reduceAdd, Int.reduceSub, Int.reduceMul, Int.reduceNeg, Int.reduceToNat, reduceCtorEq, t8, t7, t0, t3, g1, g2, hB, hC]
            refine fin 4 _ (hn.trans (if_pos ⟨hB, hC, .inl rfl⟩)) ?_ ?_ ?_ ?_ <;> simp only [↓STEP, go_sem, ↓reduceIte, Nat.reduceEqDiff, Nat.reduceLeDiff, Nat.reduceLT, Nat.reduceAdd, Nat.reduceSub, Nat.reduceMul, Int.reduceLT, Int.reduceLE, Int.reduceEq, Int.reduceAdd, Int.reduceSub, Int.reduceMul, Int.reduceNeg, Int.reduceToNat, reduceCtorEq, t7, t0, t3] <;> rfl
      | 3, 1, _, _ =>
        have t8 : t.v 8 = .i .i64 4 := t8
        have t7 : t.v 7 = .i .i64 1 := t7
        cases hB : B 4 with
        | false =>
          simp only [↓STEP, go_sem, ↓reduceIte, Nat.reduceEqDiff, Nat.reduceLeDiff, Nat.reduceLT, Nat.reduceAdd, Nat.reduceSub, Nat.reduceMul, Int.reduceLT, Int.reduceLE, Int.reduceEq, Int.reduceAdd, Int.reduceSub, Int.reduceMul, Int.reduceNeg, Int.reduceToNat, reduceCtorEq, t8, t7, t0, t3, g1, g2, hB]
          refine fin 1 _ (hn.trans (if_neg (by simp [hB]))) ?_ ?_ ?_ ?_ <;> simp only [↓STEP, go_sem, ↓reduceIte, Nat.reduceEqDiff, Nat.reduceLeDiff, Nat.reduceLT, Nat.reduceAdd, Nat.reduceSub, Nat.reduceMul, Int.reduceLT, Int.reduceLE, Int.reduceEq, Int.reduceAdd, Int.reduceSub, Int.reduceMul, Int.reduceNeg, Int.reduceToNat, reduceCtorEq, t7, t0, t3] <;> rfl
        | true => cases hC : C 4 with
          | true =>
            simp only [↓STEP, go_sem, ↓reduceIte, Nat.reduceEqDiff, Nat.reduceLeDiff, Nat.reduceLT, Nat.reduceAdd, Nat.reduceSub, Nat.reduceMul, Int.reduceLT, Int.reduceLE, Int.reduceEq, Int.reduceAdd, Int.reduceSub, Int.reduceMul, Int.reduceNeg, Int.reduceToNat, reduceCtorEq, t8, t7, t0, t3, g1, g2, hB, hC]
            refine fin 1 _ (hn.trans (if_neg (by simp [hC]))) ?_ ?_ ?_ ?_ <;> simp only [↓STEP, go_sem, ↓reduceIte, Nat.reduceEqDiff, Nat.reduceLeDiff, Nat.reduceLT, Nat.reduceAdd, Nat.reduceSub, Nat.reduceMul, Int.reduceLT, Int.reduceLE, Int.reduceEq, Int.reduceAdd, Int.reduceSub, Int.reduceMul, Int.reduceNeg, Int.reduceToNat, reduceCtorEq, t7, t0, t3] <;> rfl
          | false =>
            by_cases hA : A 4 < A 1
            · simp only [↓STEP, go_sem, ↓reduceIte, Nat.reduceEqDiff, Nat.reduceLeDiff, Nat.reduceLT, Nat.reduceAdd, Nat.reduceSub, Nat.reduceMul, Int.reduceLT, Int.reduceLE, Int.reduceEq, Int.reduceAdd, Int.reduceSub, Int.reduceMul, Int.reduceNeg, Int.reduceToNat, reduceCtorEq, t8, t7, t0, t3, g1, g2, hB, hC, hA]
              refine fin 4 _ (hn.trans (if_pos ⟨hB, hC, .inr hA⟩)) ?_ ?_ ?_ ?_ <;> simp only [↓STEP, go_sem, ↓reduceIte, Nat.reduceEqDiff, Nat.reduceLeDiff, Nat.reduceLT, Nat.reduceAdd, Nat.reduceSub, Nat.reduceMul, Int.reduceLT, Int.reduceLE, Int.reduceEq, Int.reduceAdd, Int.reduceSub, Int.reduceMul, Int.reduceNeg, Int.reduceToNat, reduceCtorEq, t7, t0, t3] <;> rfl
            · simp only [↓STEP, go_sem, ↓reduceIte, Nat.reduceEqDiff, Nat.reduceLeDiff, Nat.reduceLT, Nat.reduceAdd, Nat.reduceSub, Nat.reduceMul, Int.reduceLT, Int.reduceLE, Int.reduceEq, Int.reduceAdd, Int.reduceSub, Int.reduceMul, Int.reduceNeg, Int.reduceToNat, reduceCtorEq, t8, t7, t0, t3, g1, g2, hB, hC, hA]
              refine fin 1 _ (hn.trans (if_neg (by rintro ⟨_, _, q | q⟩; exact absurd q (by decide); exact hA q))) ?_ ?_ ?_ ?_ <;> simp only [↓STEP, go_sem, ↓reduceIte, Nat.reduceEqDiff, Nat.reduceLeDiff, Nat.reduceLT, Nat.reduceAdd, Nat.reduceSub, Nat.reduceMul, Int.reduceLT, Int.reduceLE, Int.reduceEq, Int.reduceAdd, Int.reduceSub, Int.reduceMul, Int.reduceNeg, Int.reduceToNat, reduceCtorEq, t7, t0, t3] <;> rfl
      | 3, 2, _, _ =>
        have t8 : t.v 8 = .i .i64 4 := t8
        have t7 : t.v 7 = .i .i64 2 := t7
        cases hB : B 4 with
        | false =>
          simp only [↓STEP, go_sem, ↓reduceIte, Nat.reduceEqDiff, Nat.reduceLeDiff, Nat.reduceLT, Nat.reduceAdd, Nat.reduceSub, Nat.reduceMul, Int.reduceLT, Int.reduceLE, Int.reduceEq, Int.reduceAdd, Int.reduceSub, Int.reduceMul, Int.reduceNeg, Int.reduceToNat, reduceCtorEq, t8, t7, t0, t3, g1, g2, hB]
          refine fin 2 _ (hn.trans (if_neg (by simp [hB]))) ?_ ?_ ?_ ?_ <;> simp only [↓STEP, go_sem, ↓reduceIte, Nat.reduceEqDiff, Nat.reduceLeDiff, Nat.reduceLT, Nat.reduceAdd, Nat.reduceSub, Nat.reduceMul, Int.reduceLT, Int.reduceLE, Int.reduceEq, Int.reduceAdd, Int.reduceSub, Int.reduceMul, Int.reduceNeg, Int.reduceToNat, reduceCtorEq, t7, t0, t3] <;> rfl
        | true => cases hC : C 4 with
          | true =>
            simp only [↓STEP, go_sem, ↓reduceIte, Nat.reduceEqDiff, Nat.reduceLeDiff, Nat.reduceLT, Nat.reduceAdd, Nat.reduceSub, Nat.reduceMul, Int.reduceLT, Int.reduceLE, Int.reduceEq, Int.reduceAdd, Int.reduceSub, Int.reduceMul, Int.reduceNeg, Int.reduceToNat, reduceCtorEq, t8, t7, t0, t3, g1, g2, hB, hC]
            refine fin 2 _ (hn.trans (if_neg (by simp [hC]))) ?_ ?_ ?_ ?_ <;> simp only [↓STEP, go_sem, ↓reduceIte, Nat.reduceEqDiff, Nat.reduceLeDiff, Nat.reduceLT, Nat.reduceAdd, Nat.reduceSub, Nat.reduceMul, Int.reduceLT, Int.reduceLE, Int.reduceEq, Int.reduceAdd, Int.reduceSub, Int.reduceMul, Int.reduceNeg, Int.reduceToNat, reduceCtorEq, t7, t0, t3] <;> rfl
          | false =>
            by_cases hA : A 4 < A 2
            · simp only [↓STEP, go_sem, ↓reduceIte, Nat.reduceEqDiff, Nat.reduceLeDiff, Nat.reduceLT, Nat.reduceAdd, Nat.reduceSub, Nat.reduceMul, Int.reduceLT, Int.reduceLE, Int.reduceEq, Int.reduceAdd, Int.reduceSub, Int.reduceMul, Int.reduceNeg, Int.reduceToNat, reduceCtorEq, t8, t7, t0, t3, g1, g2, hB, hC, hA]
              refine fin 4 _ (hn.trans (if_pos ⟨hB, hC, .inr hA⟩)) ?_ ?_ ?_ ?_ <;> simp only [↓STEP, go_sem, ↓reduceIte, Nat.reduceEqDiff, Nat.reduceLeDiff, Nat.reduceLT, Nat.reduceAdd, Nat.reduceSub, Nat.reduceMul, Int.reduceLT, Int.reduceLE, Int.reduceEq, Int.reduceAdd, Int.reduceSub, Int.reduceMul, Int.reduceNeg, Int.reduceToNat, reduceCtorEq, t7, t0, t3] <;> rfl
            · simp only [↓STEP, go_sem, ↓reduceIte, Nat.reduceEqDiff, Nat.reduceLeDiff, Nat.reduceLT, Nat.reduceAdd, Nat.reduceSub, Nat.reduceMul, Int.reduceLT, Int.reduceLE, Int.reduceEq, Int.reduceAdd, Int.reduceSub, Int.reduceMul, Int.reduceNeg, Int.reduceToNat, reduceCtorEq, t8, t7, t0, t3, g1, g2, hB, hC, hA]
              refine fin 2 _ (hn.trans (if_neg (by rintro ⟨_, _, q | q⟩; exact absurd q (by decide); exact hA q))) ?_ ?_ ?_ ?_ <;> simp only [↓STEP, go_sem, ↓reduceIte, Nat.reduceEqDiff, Nat.reduceLeDiff, Nat.reduceLT, Nat.reduceAdd, Nat.reduceSub, Nat.reduceMul, Int.reduceLT, Int.reduceLE, Int.reduceEq, Int.reduceAdd, Int.reduceSub, Int.reduceMul, Int.reduceNeg, Int.reduceToNat, reduceCtorEq, t7, t0, t3] <;> rfl
      | 3, 3, _, _ =>
        have t8 : t.v 8 = .i .i64 4 := t8
        have t7 : t.v 7 = .i .i64 3 := t7
        cases hB : B 4 with
        | false =>
          simp only [↓STEP, go_sem, ↓reduceIte, Nat.reduceEqDiff, Nat.reduceLeDiff, Nat.reduceLT, Nat.reduceAdd, Nat.reduceSub, Nat.reduceMul, Int.reduceLT, Int.reduceLE, Int.reduceEq, Int.reduceAdd, Int.reduceSub, Int.reduceMul, Int.reduceNeg, Int.reduceToNat, reduceCtorEq, t8, t7, t0, t3, g1, g2, hB]
          refine fin 3 _ (hn.trans (if_neg (by simp [hB]))) ?_ ?_ ?_ ?_ <;> simp only [↓STEP, go_sem, ↓reduceIte, Nat.reduceEqDiff, Nat.reduceLeDiff, Nat.reduceLT, Nat.reduceAdd, Nat.reduceSub, Nat.reduceMul, Int.reduceLT, Int.reduceLE, Int.reduceEq, Int.reduceAdd, Int.reduceSub, Int.reduceMul, Int.reduceNeg, Int.reduceToNat, reduceCtorEq, t7, t0, t3] <;> rfl
        | true => cases hC : C 4 with
          | true =>
            simp only [↓STEP, go_sem, ↓reduceIte, Nat.reduceEqDiff, Nat.reduceLeDiff, Nat.reduceLT, Nat.reduceAdd, Nat.reduceSub, Nat.reduceMul, Int.reduceLT, Int.reduceLE, Int.reduceEq, Int.reduceAdd, Int.reduceSub, Int.reduceMul, Int.reduceNeg, Int.reduceToNat, reduceCtorEq, t8, t7, t0, t3, g1, g2, hB, hC]
            refine fin 3 _ (hn.trans (if_neg (by simp [hC]))) ?_ ?_ ?_ ?_ <;> simp only [↓STEP, go_sem, ↓reduceIte, Nat.reduceEqDiff, Nat.reduceLeDiff, Nat.reduceLT, Nat.reduceAdd, Nat.reduceSub, Nat.reduceMul, Int.reduceLT, Int.reduceLE, Int.reduceEq, Int.reduceAdd, Int.reduceSub, Int.reduceMul, Int.reduceNeg, Int.reduceToNat, reduceCtorEq, t7, t0, t3] <;> rfl
          | false =>
            by_cases hA : A 4 < A 3
            · simp only [↓STEP, go_sem, ↓reduceIte, Nat.reduceEqDiff, Nat.reduceLeDiff, Nat.reduceLT, Nat.reduceAdd, Nat.reduceSub, Nat.reduceMul, Int.reduceLT, Int.reduceLE, Int.reduceEq, Int.reduceAdd, Int.reduceSub, Int.reduceMul, Int.reduceNeg, Int.reduceToNat, reduceCtorEq, t8, t7, t0, t3, g1, g2, hB, hC, hA]
              refine fin 4 _ (hn.trans (if_pos ⟨hB, hC, .inr hA⟩)) ?_ ?_ ?_ ?_ <;> simp only [↓STEP, go_sem, ↓reduceIte, Nat.reduceEqDiff, Nat.reduceLeDiff, Nat.reduceLT, Nat.reduceAdd, Nat.reduceSub, Nat.reduceMul, Int.reduceLT, Int.reduceLE, Int.reduceEq, Int.reduceAdd, Int.reduceSub, Int.reduceMul, Int.reduceNeg, Int.reduceToNat, reduceCtorEq, t7, t0, t3] <;> rfl
            · simp only [↓STEP, go_sem, ↓reduceIte, Nat.reduceEqDiff, Nat.reduceLeDiff, Nat.reduceLT, Nat.reduceAdd, Nat.reduceSub, Nat.reduceMul, Int.reduceLT, Int.reduceLE, Int.reduceEq, Int.reduceAdd, Int.reduceSub, Int.reduceMul, Int.reduceNeg, Int.reduceToNat, reduceCtorEq, t8, t7, t0, t3, g1, g2, hB, hC, hA]
              refine fin 3 _ (hn.trans (if_neg (by rintro ⟨_, _, q | q⟩; exact absurd q (by decide); exact hA q))) ?_ ?_ ?_ ?_ <;> simp only [↓STEP, go_sem, ↓reduceIte, Nat.reduceEqDiff, Nat.reduceLeDiff, Nat.reduceLT, Nat.reduceAdd, Nat.reduceSub, Nat.reduceMul, Int.reduceLT, Int.reduceLE, Int.reduceEq, Int.reduceAdd, Int.reduceSub, Int.reduceMul, Int.reduceNeg, Int.reduceToNat, reduceCtorEq, t7, t0, t3] <;> rfl
      | 4, 0, _, _ =>
        have t8 : t.v 8 = .i .i64 5 := t8
        have t7 : t.v 7 = .i .i64 0 := t7
        cases hB : B 5 with
        | false =>
          simp only [↓STEP, go_sem, ↓reduceIte, Nat.reduceEqDiff, Nat.reduceLeDiff, Nat.reduceLT, Nat.reduceAdd, Nat.reduceSub, Nat.reduceMul, Int.reduceLT, Int.reduceLE, Int.reduceEq, Int.reduceAdd, Int.reduceSub, Int.reduceMul, Int.reduceNeg, Int.reduceToNat, reduceCtorEq, t8, t7, t0, t3, g1, g2, hB]
          refine fin 0 _ (hn.trans (if_neg (by simp [hB]))) ?_ ?_ ?_ ?_ <;> simp only [↓STEP, go_sem, ↓reduceIte, Nat.reduceEqDiff, Nat.reduceLeDiff, Nat.reduceLT, Nat.reduceAdd, Nat.reduceSub, Nat.reduceMul, Int.reduceLT, Int.reduceLE, Int.reduceEq, Int.reduceAdd, Int.reduceSub, Int.reduceMul, Int.reduceNeg, Int.reduceToNat, reduceCtorEq, t7, t0, t3] <;> rfl
        | true => cases hC : C 5 with
          | true =>
            simp only [↓STEP, go_sem, ↓reduceIte, Nat.reduceEqDiff, Nat.reduceLeDiff, Nat.reduceLT, Nat.reduceAdd, Nat.reduceSub, Nat.reduceMul, Int.reduceLT, Int.reduceLE, Int.reduceEq, Int.reduceAdd, Int.reduceSub, Int.reduceMul, Int.reduceNeg, Int.reduceToNat, reduceCtorEq, t8, t7, t0, t3, g1, g2, hB, hC]
            refine fin 0 _ (hn.trans (if_neg (by simp [hC]))) ?_ ?_ ?_ ?_ <;> simp only [↓STEP, go_sem, ↓reduceIte, Nat.reduceEqDiff, Nat.reduceLeDiff, Nat.reduceLT, Nat.reduceAdd, Nat.reduceSub, Nat.reduceMul, Int.reduceLT, Int.reduceLE, Int.reduceEq, Int.reduceAdd, Int.reduceSub, Int.reduceMul, Int.reduceNeg, Int.reduceToNat, reduceCtorEq, t7, t0, t3] <;> rfl
          | false =>
            simp only [↓STEP, go_sem, ↓reduceIte, Nat.reduceEqDiff, Nat.reduceLeDiff, Nat.reduceLT, Nat.reduceAdd, Nat.reduceSub, Nat.reduceMul, Int.reduceLT, Int.reduceLE, Int.reduceEq, Int.reduceAdd, Int.reduceSub, Int.reduceMul, Int.reduceNeg, Int.reduceToNat, reduceCtorEq, t8, t7, t0, t3, g1, g2, hB, hC]
            refine fin 5 _ (hn.trans (if_pos ⟨hB, hC, .inl rfl⟩)) ?_ ?_ ?_ ?_ <;> simp only [↓STEP, go_sem, ↓reduceIte, Nat.reduceEqDiff, Nat.reduceLeDiff, Nat.reduceLT, Nat.reduceAdd, Nat.reduceSub, Nat.reduceMul, Int.reduceLT, Int.reduceLE, Int.reduceEq, Int.reduceAdd, Int.reduceSub, Int.reduceMul, Int.reduceNeg, Int.reduceToNat, reduceCtorEq, t7, t0, t3] <;> rfl
      | 4, 1, _, _ =>
        have t8 : t.v 8 = .i .i64 5 := t8
        have t7 : t.v 7 = .i .i64 1 := t7
        cases hB : B 5 with
        | false =>
          simp only [↓STEP, go_sem, ↓reduceIte, Nat.reduceEqDiff, Nat.reduceLeDiff, Nat.reduceLT, Nat.reduceAdd, Nat.reduceSub, Nat.reduceMul, Int.reduceLT, Int.reduceLE, Int.reduceEq, Int.reduceAdd, Int.reduceSub, Int.reduceMul, Int.reduceNeg, Int.reduceToNat, reduceCtorEq, t8, t7, t0, t3, g1, g2, hB]
          refine fin 1 _ (hn.trans (if_neg (by simp [hB]))) ?_ ?_ ?_ ?_ <;> simp only [↓STEP, go_sem, ↓reduceIte, Nat.reduceEqDiff, Nat.reduceLeDiff, Nat.reduceLT, Nat.reduceAdd, Nat.reduceSub, Nat.reduceMul, Int.reduceLT, Int.reduceLE, Int.reduceEq, Int.reduceAdd, Int.reduceSub, Int.reduceMul, Int.reduceNeg, Int.reduceToNat, reduceCtorEq, t7, t0, t3] <;> rfl
        | true => cases hC : C 5 with
          | true =>
            simp only [↓STEP, go_sem, ↓reduceIte, Nat.reduceEqDiff, Nat.reduceLeDiff, Nat.reduceLT, Nat.reduceAdd, Nat.reduceSub, Nat.reduceMul, Int.reduceLT, Int.reduceLE, Int.reduceEq, Int.reduceAdd, Int.reduceSub, Int.reduceMul, Int.reduceNeg, Int.reduceToNat, reduceCtorEq, t8, t7, t0, t3, g1, g2, hB, hC]
            refine fin 1 _ (hn.trans (if_neg (by simp [hC]))) ?_ ?_ ?_ ?_ <;> simp only [↓STEP, go_sem, ↓reduceIte, Nat.reduceEqDiff, Nat.reduceLeDiff, Nat.reduceLT, Nat.reduceAdd, Nat.reduceSub, Nat.reduceMul, Int.reduceLT, Int.reduceLE, Int.reduceEq, Int.reduceAdd, Int.reduceSub, Int.reduceMul, Int.reduceNeg, Int.reduceToNat, reduceCtorEq, t7, t0, t3] <;> rfl
          | false =>
            by_cases hA : A 5 < A 1
            · simp only [↓STEP, go_sem, ↓reduceIte, Nat.reduceEqDiff, Nat.reduceLeDiff, Nat.reduceLT, Nat.reduceAdd, Nat.reduceSub, Nat.reduceMul, Int.reduceLT, Int.reduceLE, Int.reduceEq, Int.reduceAdd, Int.reduceSub, Int.reduceMul, Int.reduceNeg, Int.reduceToNat, reduceCtorEq, t8, t7, t0, t3, g1, g2, hB, hC, hA]
              refine fin 5 _ (hn.trans (if_pos ⟨hB, hC, .inr hA⟩)) ?_ ?_ ?_ ?_ <;> simp only [↓STEP, go_sem, ↓reduceIte, Nat.reduceEqDiff, Nat.reduceLeDiff, Nat.reduceLT, Nat.reduceAdd, Nat.reduceSub, Nat.reduceMul, Int.reduceLT, Int.reduceLE, Int.reduceEq, Int.reduceAdd, Int.reduceSub, Int.reduceMul, Int.reduceNeg, Int.reduceToNat, reduceCtorEq, t7, t0, t3] <;> rfl
            · simp only [↓STEP, go_sem, ↓reduceIte, Nat.reduceEqDiff, Nat.reduceLeDiff, Nat.reduceLT, Nat.reduceAdd, Nat.reduceSub, Nat.reduceMul, Int.reduceLT, Int.reduceLE, Int.reduceEq, Int.reduceAdd, Int.reduceSub, Int.reduceMul, Int.reduceNeg, Int.reduceToNat, reduceCtorEq, t8, t7, t0, t3, g1, g2, hB, hC, hA]
              refine fin 1 _ (hn.trans (if_neg (by rintro ⟨_, _, q | q⟩; exact absurd q (by decide); exact hA q))) ?_ ?_ ?_ ?_ <;> simp only [↓STEP, go_sem, ↓reduceIte, Nat.reduceEqDiff, Nat.reduceLeDiff, Nat.reduceLT, Nat.reduceAdd, Nat.reduceSub, Nat.reduceMul, Int.reduceLT, Int.reduceLE, Int.reduceEq, Int.reduceAdd, Int.reduceSub, Int.reduceMul, Int.reduceNeg, Int.reduceToNat, reduceCtorEq, t7, t0, t3] <;> rfl
      | 4, 2, _, _ =>
        have t8 : t.v 8 = .i .i64 5 := t8
        have t7 : t.v 7 = .i .i64 2 := t7
        cases hB : B 5 with
        | false =>
          simp only [↓STEP, go_sem, ↓reduceIte, Nat.reduceEqDiff, Nat.reduceLeDiff, Nat.reduceLT, Nat.reduceAdd, Nat.reduceSub, Nat.reduceMul, Int.reduceLT, Int.reduceLE, Int.reduceEq, Int.reduceAdd, Int.reduceSub, Int.reduceMul, Int.reduceNeg, Int.reduceToNat, reduceCtorEq, t8, t7, t0, t3, g1, g2, hB]
          refine fin 2 _ (hn.trans (if_neg (by simp [hB]))) ?_ ?_ ?_ ?_ <;> simp only [↓STEP, go_sem, ↓reduceIte, Nat.reduceEqDiff, Nat.reduceLeDiff, Nat.reduceLT, Nat.reduceAdd, Nat.reduceSub, Nat.reduceMul, Int.reduceLT, Int.reduceLE, Int.reduceEq, Int.reduceAdd, Int.reduceSub, Int.reduceMul, Int.reduceNeg, Int.reduceToNat, reduceCtorEq, t7, t0, t3] <;> rfl
        | true => cases hC : C 5 with
          | true =>
            simp only [↓STEP, go_sem, ↓reduceIte, Nat.reduceEqDiff, Nat.reduceLeDiff, Nat.reduceLT, Nat.reduceAdd, Nat.reduceSub, Nat.reduceMul, Int.reduceLT, Int.reduceLE, Int.reduceEq, Int.reduceAdd, Int.reduceSub, Int.reduceMul, Int.reduceNeg, Int.reduceToNat, reduceCtorEq, t8, t7, t0, t3, g1, g2, hB, hC]
            refine fin 2 _ (hn.trans (if_neg (by simp [hC]))) ?_ ?_ ?_ ?_ <;> simp only [↓STEP, go_sem, ↓reduceIte, Nat.reduceEqDiff, Nat.reduceLeDiff, Nat.reduceLT, Nat.reduceAdd, Nat.reduceSub, Nat.reduceMul, Int.reduceLT, Int.reduceLE, Int.reduceEq, Int.reduceAdd, Int.reduceSub, Int.reduceMul, Int.reduceNeg, Int.reduceToNat, reduceCtorEq, t7, t0, t3] <;> rfl
          | false =>
            by_cases hA : A 5 < A 2
            · simp only [↓STEP, go_sem, ↓reduceIte, Nat.reduceEqDiff, Nat.reduceLeDiff, Nat.reduceLT, Nat.reduceAdd, Nat.reduceSub, Nat.reduceMul, Int.reduceLT, Int.reduceLE, Int.reduceEq, Int.reduceAdd, Int.reduceSub, Int.reduceMul, Int.reduceNeg, Int.reduceToNat, reduceCtorEq, t8, t7, t0, t3, g1, g2, hB, hC, hA]
              refine fin 5 _ (hn.trans (if_pos ⟨hB, hC, .inr hA⟩)) ?_ ?_ ?_ ?_ <;> simp only [↓STEP, go_sem, ↓reduceIte, Nat.reduceEqDiff, Nat.reduceLeDiff, Nat.reduceLT, Nat.reduceAdd, Nat.reduceSub, Nat.reduceMul, Int.reduceLT, Int.reduceLE, Int.reduceEq, Int.reduceAdd, Int.reduceSub, Int.reduceMul, Int.reduceNeg, Int.reduceToNat, reduceCtorEq, t7, t0, t3] <;> rfl
            · simp only [↓STEP, go_sem, ↓reduceIte, Nat.reduceEqDiff, Nat.reduceLeDiff, Nat.reduceLT, Nat.reduceAdd, Nat.reduceSub, Nat.reduceMul, Int.reduceLT, Int.reduceLE, Int.reduceEq, Int.reduceAdd, Int.reduceSub, Int.reduceMul, Int.reduceNeg, Int.reduceToNat, reduceCtorEq, t8, t7, t0, t3, g1, g2, hB, hC, hA]
              refine fin 2 _ (hn.trans (if_neg (by rintro ⟨_, _, q | q⟩; exact absurd q (by decide); exact hA q))) ?_ ?_ ?_ ?_ <;> simp only [↓STEP, go_sem, ↓reduceIte, Nat.reduceEqDiff, Nat.reduceLeDiff, Nat.reduceLT, Nat.reduceAdd, Nat.reduceSub, Nat.reduceMul, Int.reduceLT, Int.reduceLE, Int.reduceEq, Int.reduceAdd, Int.reduceSub, Int.reduceMul, Int.reduceNeg, Int.reduceToNat, reduceCtorEq, t7, t0, t3] <;> rfl
      | 4, 3, _, _ =>
        have t8 : t.v 8 = .i .i64 5 := t8
        have t7 : t.v 7 = .i .i64 3 := t7
        cases hB : B 5 with
        | false =>
          simp only [↓STEP, go_sem, ↓reduceIte, Nat.reduceEqDiff, Nat.reduceLeDiff, Nat.reduceLT, Nat.reduceAdd, Nat.reduceSub, Nat.reduceMul, Int.reduceLT, Int.reduceLE, Int.reduceEq, Int.reduceAdd, Int.reduceSub, Int.reduceMul, Int.reduceNeg, Int.reduceToNat, reduceCtorEq, t8, t7, t0, t3, g1, g2, hB]
          refine fin 3 _ (hn.trans (if_neg (by simp [hB]))) ?_ ?_ ?_ ?_ <;> simp only [↓STEP, go_sem, ↓reduceIte, Nat.reduceEqDiff, Nat.reduceLeDiff, Nat.reduceLT, Nat.reduceAdd, Nat.reduceSub, Nat.reduceMul, Int.reduceLT, Int.reduceLE, Int.reduceEq, Int.reduceAdd, Int.reduceSub, Int.reduceMul, Int.reduceNeg, Int.reduceToNat, reduceCtorEq, t7, t0, t3] <;> rfl
        | true => cases hC : C 5 with
          | true =>
            simp only [↓STEP, go_sem, ↓reduceIte, Nat.reduceEqDiff, Nat.reduceLeDiff, Nat.reduceLT, Nat.reduceAdd, Nat.reduceSub, Nat.reduceMul, Int.reduceLT, Int.reduceLE, Int.reduceEq, Int.reduceAdd, Int.reduceSub, Int.reduceMul, Int.reduceNeg, Int.reduceToNat, reduceCtorEq, t8, t7, t0, t3, g1, g2, hB, hC]
            refine fin 3 _ (hn.trans (if_neg (by simp [hC]))) ?_ ?_ ?_ ?_ <;> simp only [↓STEP, go_sem, ↓reduceIte, Nat.reduceEqDiff, Nat.reduceLeDiff, Nat.reduceLT, Nat.reduceAdd, Nat.reduceSub, Nat.reduceMul, Int.reduceLT, Int.reduceLE, Int.reduceEq, Int.reduceAdd, Int.reduceSub, Int.reduceMul, Int.reduceNeg, Int.reduceToNat, reduceCtorEq, t7, t0, t3] <;> rfl
          | false =>
            by_cases hA : A 5 < A 3
            · simp only [↓STEP, go_sem, ↓reduceIte, Nat.reduceEqDiff, Nat.reduceLeDiff, Nat.reduceLT, Nat.reduceAdd, Nat.reduceSub, Nat.reduceMul, Int.reduceLT, Int.reduceLE, Int.reduceEq, Int.reduceAdd, Int.reduceSub, Int.reduceMul, Int.reduceNeg, Int.reduceToNat, reduceCtorEq, t8, t7, t0, t3, g1, g2, hB, hC, hA]
              refine fin 5 _ (hn.trans (if_pos ⟨hB, hC, .inr hA⟩)) ?_ ?_ ?_ ?_ <;> simp only [↓STEP, go_sem, ↓reduceIte, Nat.reduceEqDiff, Nat.reduceLeDiff, Nat.reduceLT, Nat.reduceAdd, Nat.reduceSub, Nat.reduceMul, Int.reduceLT, Int.reduceLE, Int.reduceEq, Int.reduceAdd, Int.reduceSub, Int.reduceMul, Int.reduceNeg, Int.reduceToNat, reduceCtorEq, t7, t0, t3] <;> rfl
            · simp only [↓STEP, go_sem, ↓reduceIte, Nat.reduceEqDiff, Nat.reduceLeDiff, Nat.reduceLT, Nat.reduceAdd, Nat.reduceSub, Nat.reduceMul, Int.reduceLT, Int.reduceLE, Int.reduceEq, Int.reduceAdd, Int.reduceSub, Int.reduceMul, Int.reduceNeg, Int.reduceToNat, reduceCtorEq, t8, t7, t0, t3, g1, g2, hB, hC, hA]
              refine fin 3 _ (hn.trans (if_neg (by rintro ⟨_, _, q | q⟩; exact absurd q (by decide); exact hA q))) ?_ ?_ ?_ ?_ <;> simp only [↓STEP, go_sem, ↓reduceIte, Nat.reduceEqDiff, Nat.reduceLeDiff, Nat.reduceLT, Nat.reduceAdd, Nat.reduceSub, Nat.reduceMul, Int.reduceLT, Int.reduceLE, Int.reduceEq, Int.reduceAdd, Int.reduceSub, Int.reduceMul, Int.reduceNeg, Int.reduceToNat, reduceCtorEq, t7, t0, t3] <;> rfl
      | 4, 4, _, _ =>
        have t8 : t.v 8 = .i .i64 5 := t8
        have t7 : t.v 7 = .i .i64 4 := t7
        cases hB : B 5 with
        | false =>
          simp only [↓STEP, go_sem, ↓reduceIte, Nat.reduceEqDiff, Nat.reduceLeDiff, Nat.reduceLT, Nat.reduceAdd, Nat.reduceSub, Nat.reduceMul, Int.reduceLT, Int.reduceLE, Int.reduceEq, Int.reduceAdd, Int.reduceSub, Int.reduceMul, Int.reduceNeg, Int.reduceToNat, reduceCtorEq, t8, t7, t0, t3, g1, g2, hB]
          refine fin 4 _ (hn.trans (if_neg (by simp [hB]))) ?_ ?_ ?_ ?_ <;> simp only [↓STEP, go_sem, ↓reduceIte, Nat.reduceEqDiff, Nat.reduceLeDiff, Nat.reduceLT, Nat.reduceAdd, Nat.reduceSub, Nat.reduceMul, Int.reduceLT, Int.reduceLE, Int.reduceEq, Int.reduceAdd, Int.reduceSub, Int.reduceMul, Int.reduceNeg, Int.reduceToNat, reduceCtorEq, t7, t0, t3] <;> rfl
        | true => cases hC : C 5 with
          | true =>
            simp only [↓STEP, go_sem, ↓reduceIte, Nat.reduceEqDiff, Nat.reduceLeDiff, Nat.reduceLT, Nat.reduceAdd, Nat.reduceSub, Nat.reduceMul, Int.reduceLT, Int.reduceLE, Int.reduceEq, Int.reduceAdd, Int.reduceSub, Int.reduceMul, Int.reduceNeg, Int.reduceToNat, reduceCtorEq, t8, t7, t0, t3, g1, g2, hB, hC]
            refine fin 4 _ (hn.trans (if_neg (by simp [hC]))) ?_ ?_ ?_ ?_ <;> simp only [↓STEP, go_sem, ↓reduceIte, Nat.reduceEqDiff, Nat.reduceLeDiff, Nat.reduceLT, Nat.reduceAdd, Nat.reduceSub, Nat.reduceMul, Int.reduceLT, Int.reduceLE, Int.reduceEq, Int.reduceAdd, Int.reduceSub, Int.reduceMul, Int.reduceNeg, Int.reduceToNat, reduceCtorEq, t7, t0, t3] <;> rfl
          | false =>
            by_cases hA : A 5 < A 4
            · simp only [↓STEP, go_sem, ↓reduceIte, Nat.reduceEqDiff, Nat.reduceLeDiff, Nat.reduceLT, Nat.reduceAdd, Nat.reduceSub, Nat.reduceMul, Int.reduceLT, Int.reduceLE, Int.reduceEq, Int.reduceAdd, Int.reduceSub, Int.reduceMul, Int.reduceNeg, Int.reduceToNat, reduceCtorEq, t8, t7, t0, t3, g1, g2, hB, hC, hA]
              refine fin 5 _ (hn.trans (if_pos ⟨hB, hC, .inr hA⟩)) ?_ ?_ ?_ ?_ <;> simp only [↓STEP, go_sem, ↓reduceIte, Nat.reduceEqDiff, Nat.reduceLeDiff, Nat.reduceLT, Nat.reduceAdd, Nat.reduceSub, Nat.reduceMul, Int.reduceLT, Int.reduceLE, Int.reduceEq, Int.reduceAdd, Int.reduceSub, Int.reduceMul, Int.reduceNeg, Int.reduceToNat, reduceCtorEq, t7, t0, t3] <;> rfl
            · simp only [↓STEP, go_sem, ↓reduceIte, Nat.reduceEqDiff, Nat.reduceLeDiff, Nat.reduceLT, Nat.reduceAdd, Nat.reduceSub, Nat.reduceMul, Int.reduceLT, Int.reduceLE, Int.reduceEq, Int.reduceAdd, Int.reduceSub, Int.reduceMul, Int.reduceNeg, Int.reduceToNat, reduceCtorEq, t8, t7, t0, t3, g1, g2, hB, hC, hA]
              refine fin 4 _ (hn.trans (if_neg (by rintro ⟨_, _, q | q⟩; exact absurd q (by decide); exact hA q))) ?_ ?_ ?_ ?_ <;> simp only [↓STEP, go_sem, ↓reduceIte, Nat.reduceEqDiff, Nat.reduceLeDiff, Nat.reduceLT, Nat.reduceAdd, Nat.reduceSub, Nat.reduceMul, Int.reduceLT, Int.reduceLE, Int.reduceEq, Int.reduceAdd, Int.reduceSub, Int.reduceMul, Int.reduceNeg, Int.reduceToNat, reduceCtorEq, t7, t0, t3] <;> rfl
  · simp only [↓STEP, go_sem, ↓reduceIte, Nat.reduceEqDiff, Nat.reduceLeDiff, Nat.reduceLT, Nat.reduceAdd, Nat.reduceSub, Nat.reduceMul, Int.reduceLT, Int.reduceLE, Int.reduceEq, Int.reduceAdd, Int.reduceSub, Int.reduceMul, Int.reduceNeg, Int.reduceToNat, reduceCtorEq] <;> rfl
  · simp only [↓STEP, go_sem, ↓reduceIte, Nat.reduceEqDiff, Nat.reduceLeDiff, Nat.reduceLT, Nat.reduceAdd, Nat.reduceSub, Nat.reduceMul, Int.reduceLT, Int.reduceLE, Int.reduceEq, Int.reduceAdd, Int.reduceSub, Int.reduceMul, Int.reduceNeg, Int.reduceToNat, reduceCtorEq] <;> rfl
  · simp only [↓STEP, go_sem, ↓reduceIte, Nat.reduceEqDiff, Nat.reduceLeDiff, Nat.reduceLT, Nat.reduceAdd, Nat.reduceSub, Nat.reduceMul, Int.reduceLT, Int.reduceLE, Int.reduceEq, Int.reduceAdd, Int.reduceSub, Int.reduceMul, Int.reduceNeg, Int.reduceToNat, reduceCtorEq]
  · simp only [↓STEP, go_sem, ↓reduceIte, Nat.reduceEqDiff, Nat.reduceLeDiff, Nat.reduceLT, Nat.reduceAdd, Nat.reduceSub, Nat.reduceMul, Int.reduceLT, Int.reduceLE, Int.reduceEq, Int.reduceAdd, Int.reduceSub, Int.reduceMul, Int.reduceNeg, Int.reduceToNat, reduceCtorEq]
end Am
