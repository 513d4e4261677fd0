/- endpoint: a tick at which nothing is due. -/
import Derived.Test.YtkhnielggkcbiaaGreatDoorEnd2
namespace Am
set_option linter.all false
set_option maxRecDepth 20000
set_option maxHeartbeats 8000000
open Go (IntKind)
variable {pr : Prog}
def noC : Nat → Bool := fun _ => false
theorem tick_none {kD kd kf k1 kn ks : Nat} (xD : pr.ext kD = some (gDue k1)) (xf : pr.ext kf = some gFlush) (x1 : pr.ext k1 = none) (f1 : pr.fn k1 = some (c_timer_Set_Due_1 kn ks)) (xn : pr.ext kn = some (gRl NextR))
    {e ts : Nat} {c : Nat → V} {A : Nat → Int} {B : Nat → Bool} {now t : Int} {h : H} (he : h.get e = some (.rows 23 [eRow c] false)) (hlt : e < h.nx) (c12 : c 12 = .i .i64 now) (c15 : c 15 = .p (some (ts, 0, 0))) (c17 : c 17 = .i .i64 0) (c22 : c 22 = nilS)
    (h1 : now ≤ t) (h2 : t ≤ 1099511627776) (hts : ts < h.nx) (hne : e ≠ ts) (gt : h.get ts = some (.rows 12 [tRow A B] false)) (hq : nxt A B noC 5 = 0 ∨ t < A (nxt A B noC 5)) :
    wpF pr (c_endpoint_End_Tick kD kd kf) [.p (some (e, 0, 0)), .i .i64 t] h (fun v g => v = nilS ∧ KeptBut e h g ∧ g.get e = some (.rows 23 [eRow (upd c 12 (.i .i64 t))] false)) := by
  have hn : e ≠ h.nx := by omega
  have htn : ts ≠ h.nx := by omega
  have hn2 : ¬ h.nx = e := by omega
  have e1 : ¬ e = h.nx + 1 := by omega
  have e2 : ¬ e = h.nx + 2 := by omega
  have e3 : ¬ e = h.nx + 3 := by omega
  have t1 : ¬ ts = h.nx + 1 := by omega
  have t2 : ¬ ts = h.nx + 2 := by omega
  have t3 : ¬ ts = h.nx + 3 := by omega
  have te : ¬ ts = e := fun h => hne h.symm
  have n1 : ¬ t < now := by omega
  have n2 : ¬ t > 1099511627776 := by omega
  have z1 := @wpCall_ext pr kD _ xD
  have y1 : ∀ s n g, gDue k1 [.p s, .i .i64 n] g = some (.f (.fn k1) [.p (some (g.nx, 0, 0)), .p (some (g.nx + 1, 0, 0))], (g.push (.rows 1 [[.p s]] false)).push (.rows 1 [[.i .i64 n]] false)) := fun s n g => rfl
  have z2 := @wpCall_ext pr kf _ xf
  have z3 := @wpCall_ext pr kn _ xn
  unfold eRow at he
  unfold wpF c_endpoint_End_Tick
  refine ⟨by simp, ?_⟩
  simp only [↓STEP, go_sem, ↓reduceIte, Nat.reduceEqDiff, Nat.reduceLeDiff, Nat.reduceLT, Nat.reduceAdd, Nat.reduceSub, Nat.reduceMul, Int.reduceLT, Int.reduceLE, Int.reduceEq, Int.reduceAdd, Int.reduceSub, Int.reduceMul, Int.reduceNeg, Int.reduceToNat, reduceCtorEq, he, hn, c12, c15, c17, n1, n2, z1, y1, hn2]
  refine wpA_rfn rfl (k := k1) (caps := [.p (some (h.nx + 1, 0, 0)), .p (some (h.nx + 1 + 1, 0, 0))]) ?_ ?_
  · simp only [↓STEP, go_sem, ↓reduceIte, Nat.reduceEqDiff, Nat.reduceLeDiff, Nat.reduceLT, Nat.reduceAdd, Nat.reduceSub, Nat.reduceMul, Int.reduceLT, Int.reduceLE, Int.reduceEq, Int.reduceAdd, Int.reduceSub, Int.reduceMul, Int.reduceNeg, Int.reduceToNat, reduceCtorEq]
  simp only [↓STEP, go_sem, ↓reduceIte, Nat.reduceEqDiff, Nat.reduceLeDiff, Nat.reduceLT, Nat.reduceAdd, Nat.reduceSub, Nat.reduceMul, Int.reduceLT, Int.reduceLE, Int.reduceEq, Int.reduceAdd, Int.reduceSub, Int.reduceMul, Int.reduceNeg, Int.reduceToNat, reduceCtorEq]
  generalize hLS : LoopSt.mk _ _ _ _ _ _ _ = LS
  have q2 : LS.tm.v 2 = .p (some (h.nx, 0, 0)) := by rw [← hLS]; simp only [↓STEP, go_sem, ↓reduceIte, Nat.reduceEqDiff, Nat.reduceLeDiff, Nat.reduceLT, Nat.reduceAdd, Nat.reduceSub, Nat.reduceMul, Int.reduceLT, Int.reduceLE, Int.reduceEq, Int.reduceAdd, Int.reduceSub, Int.reduceMul, Int.reduceNeg, Int.reduceToNat, reduceCtorEq]
  have qs : LS.st = .ready := (congrArg LoopSt.st hLS).symm
  have qp : LS.pend = .normal := (congrArg LoopSt.pend hLS).symm
  generalize hG : H.push _ (.loop LS) = G
  have gnx : G.nx = h.nx + 4 := by rw [← hG]; rfl
  have ge : G.get e = some (.rows 23 [eRow (upd c 12 (.i .i64 t))] false) := by
    rw [← hG]; simp only [↓STEP, go_sem, ↓reduceIte, Nat.reduceEqDiff, Nat.reduceLeDiff, Nat.reduceLT, Nat.reduceAdd, Nat.reduceSub, Nat.reduceMul, Int.reduceLT, Int.reduceLE, Int.reduceEq, Int.reduceAdd, Int.reduceSub, Int.reduceMul, Int.reduceNeg, Int.reduceToNat, reduceCtorEq, upd, eRow, c15, c17, e1, e2, e3]
  have gts : G.get ts = some (.rows 12 [tRow A B] false) := by rw [← hG]; simp only [↓STEP, go_sem, ↓reduceIte, Nat.reduceEqDiff, Nat.reduceLeDiff, Nat.reduceLT, Nat.reduceAdd, Nat.reduceSub, Nat.reduceMul, Int.reduceLT, Int.reduceLE, Int.reduceEq, Int.reduceAdd, Int.reduceSub, Int.reduceMul, Int.reduceNeg, Int.reduceToNat, reduceCtorEq, htn, gt, t1, t2, t3, te]
  have g0 : G.get h.nx = some (.rows 1 [[.p (some (e, 0, 0))]] false) := by rw [← hG]; simp only [↓STEP, go_sem, ↓reduceIte, Nat.reduceEqDiff, Nat.reduceLeDiff, Nat.reduceLT, Nat.reduceAdd, Nat.reduceSub, Nat.reduceMul, Int.reduceLT, Int.reduceLE, Int.reduceEq, Int.reduceAdd, Int.reduceSub, Int.reduceMul, Int.reduceNeg, Int.reduceToNat, reduceCtorEq, hn2]
  have g1 : G.get (h.nx + 1) = some (.rows 1 [[.p (some (ts, 0, 0))]] false) := by rw [← hG]; simp only [↓STEP, go_sem, ↓reduceIte, Nat.reduceEqDiff, Nat.reduceLeDiff, Nat.reduceLT, Nat.reduceAdd, Nat.reduceSub, Nat.reduceMul, Int.reduceLT, Int.reduceLE, Int.reduceEq, Int.reduceAdd, Int.reduceSub, Int.reduceMul, Int.reduceNeg, Int.reduceToNat, reduceCtorEq]
  have g2 : G.get (h.nx + 2) = some (.rows 1 [[.i .i64 t]] false) := by rw [← hG]; simp only [↓STEP, go_sem, ↓reduceIte, Nat.reduceEqDiff, Nat.reduceLeDiff, Nat.reduceLT, Nat.reduceAdd, Nat.reduceSub, Nat.reduceMul, Int.reduceLT, Int.reduceLE, Int.reduceEq, Int.reduceAdd, Int.reduceSub, Int.reduceMul, Int.reduceNeg, Int.reduceToNat, reduceCtorEq]
  have g3 : G.get (h.nx + 3) = some (.loop LS) := by rw [← hG]; simp only [↓STEP, go_sem, ↓reduceIte, Nat.reduceEqDiff, Nat.reduceLeDiff, Nat.reduceLT, Nat.reduceAdd, Nat.reduceSub, Nat.reduceMul, Int.reduceLT, Int.reduceLE, Int.reduceEq, Int.reduceAdd, Int.reduceSub, Int.reduceMul, Int.reduceNeg, Int.reduceToNat, reduceCtorEq]
  have gk : KeptBut e h G := by rw [← hG]; exact ((((KeptBut.refl.push).setb).push).push).push
  clear hG
  have y3 : gRl NextR [.p (some (ts, 0, 0)), .agg [.b false, .b false, .b false, .b false, .b false, .b false]] (G.push (.rows 6 [[.b false, .b false, .b false, .b false, .b false, .b false]] false)) = some (.tup [.i .i64 (nxt A B noC 5 : Nat), .i .i64 (A (nxt A B noC 5)), .b (decide (0 < nxt A B noC 5))], G.push (.rows 6 [[.b false, .b false, .b false, .b false, .b false, .b false]] false)) :=
    gRl_at next_one ⟨ts, A, B, noC, rfl, by show ts < G.nx + 1; omega, by rw [H.get_push, if_neg (by omega)]; exact gts, rfl, rfl⟩
  refine runs_of_wpF x1 f1 ?_
  unfold wpF c_timer_Set_Due_1
  refine ⟨by simp, ?_⟩
  have m1 : ¬ h.nx + 1 = G.nx := by omega
  have m2 : ¬ h.nx + 2 = G.nx := by omega
  have y4 : gFlush [.p (some (e, 0, 0))] ((G.push (.rows 6 [[.b false, .b false, .b false, .b false, .b false, .b false]] false)).kill (h.nx + 3)) = some (nilS, ((G.push (.rows 6 [[.b false, .b false, .b false, .b false, .b false, .b false]] false)).kill (h.nx + 3)).set e (.rows 23 [eRow (upd (upd c 12 (.i .i64 t)) 22 nilS)] false)) := by
    rw [gFlush_at (c := upd c 12 (.i .i64 t)) (by rw [H.get_kill, if_neg (by omega), H.get_push, if_neg (by omega)]; exact ge)]
    congr 2
  have rw22 : eRow (upd (upd c 12 (.i .i64 t)) 22 nilS) = eRow (upd c 12 (.i .i64 t)) := eRow_congr fun i hi => by
    unfold upd
    by_cases h1 : i = 22
    · subst h1; simp [c22]
    · simp [h1]
  have m3 : ¬ h.nx + 3 = G.nx := by omega
  have m4 : ¬ h.nx = G.nx := by omega
  have m5 : ¬ h.nx = h.nx + 3 := by omega
  simp only [↓STEP, go_sem, ↓reduceIte, Nat.reduceEqDiff, Nat.reduceLeDiff, Nat.reduceLT, Nat.reduceAdd, Nat.reduceSub, Nat.reduceMul, Int.reduceLT, Int.reduceLE, Int.reduceEq, Int.reduceAdd, Int.reduceSub, Int.reduceMul, Int.reduceNeg, Int.reduceToNat, reduceCtorEq, g1]
  refine wpA_loop ?_
  have hb := nxt_le A B noC 5
  generalize nxt A B noC 5 = b at *
  by_cases hb0 : b = 0
  · subst hb0
    simp only [↓STEP, go_sem, ↓reduceIte, Nat.reduceEqDiff, Nat.reduceLeDiff, Nat.reduceLT, Nat.reduceAdd, Nat.reduceSub, Nat.reduceMul, Int.reduceLT, Int.reduceLE, Int.reduceEq, Int.reduceAdd, Int.reduceSub, Int.reduceMul, Int.reduceNeg, Int.reduceToNat, reduceCtorEq, g1, g2, m1, m2, z3, y3]
    refine ⟨LS, by rw [if_neg m3]; exact g3, by rw [qs]; simp, ?_⟩
    rw [qp]
    simp only [↓STEP, go_sem, ↓reduceIte, Nat.reduceEqDiff, Nat.reduceLeDiff, Nat.reduceLT, Nat.reduceAdd, Nat.reduceSub, Nat.reduceMul, Int.reduceLT, Int.reduceLE, Int.reduceEq, Int.reduceAdd, Int.reduceSub, Int.reduceMul, Int.reduceNeg, Int.reduceToNat, reduceCtorEq, z2, g0, m4, m5, y4]
    exact ⟨((gk.push).kill (by omega)).setb, by rw [rw22]⟩
  · have hp : 0 < b := by omega
    have hqb : t < A b := by rcases hq with hq | hq; exact absurd hq hb0; exact hq
    have hqb : A b > t := hqb
    simp only [↓STEP, go_sem, ↓reduceIte, Nat.reduceEqDiff, Nat.reduceLeDiff, Nat.reduceLT, Nat.reduceAdd, Nat.reduceSub, Nat.reduceMul, Int.reduceLT, Int.reduceLE, Int.reduceEq, Int.reduceAdd, Int.reduceSub, Int.reduceMul, Int.reduceNeg, Int.reduceToNat, reduceCtorEq, g1, g2, m1, m2, z3, y3, hp, hqb]
    refine ⟨LS, by rw [if_neg m3]; exact g3, by rw [qs]; simp, ?_⟩
    rw [qp]
    simp only [↓STEP, go_sem, ↓reduceIte, Nat.reduceEqDiff, Nat.reduceLeDiff, Nat.reduceLT, Nat.reduceAdd, Nat.reduceSub, Nat.reduceMul, Int.reduceLT, Int.reduceLE, Int.reduceEq, Int.reduceAdd, Int.reduceSub, Int.reduceMul, Int.reduceNeg, Int.reduceToNat, reduceCtorEq, z2, g0, m4, m5, y4]
    exact ⟨((gk.push).kill (by omega)).setb, by rw [rw22]⟩
end Am
