/- endpoint: a tick at which an end asks whether the other one is there. -/
import Derived.Test.YtfabolagjlhdpaaGreatEnd4
namespace Am
set_option linter.all false
set_option maxRecDepth 20000
set_option maxHeartbeats 8000000
open Go (IntKind)
variable {pr : Prog}
theorem tick_ask {kD kd kf k1 kn ks : Nat} (xD : pr.ext kD = some (gDue k1)) (xf : pr.ext kf = some gFlush) (x1 : pr.ext k1 = none) (f1 : pr.fn k1 = some (c_timer_Set_Due_1 kn ks)) (xn : pr.ext kn = some (gRl NextR))
    {e ts : Nat} {c : Nat → V} {A : Nat → Int} {B : Nat → Bool} {now t : Int} {h : H} (he : h.get e = some (.rows 23 [eRow c] false)) (hlt : e < h.nx) (c12 : c 12 = .i .i64 now) (c15 : c 15 = .p (some (ts, 0, 0))) (c17 : c 17 = .i .i64 0) (c22 : c 22 = nilS)
    (h1 : now ≤ t) (h2 : t ≤ 1099511627776) (hts : ts < h.nx) (hne : e ≠ ts) (gt : h.get ts = some (.rows 12 [tRow A B] false)) (xs : pr.ext ks = some gStop) (hq : nxt A B noC 5 ≠ 0) (hqt : A (nxt A B noC 5) ≤ t) {c' : Nat → V} {A' : Nat → Int} {B' : Nat → Bool} {Kp : Nat → Blk → Prop} (hKp : ∀ i x, Kp i x → i < h.nx ∧ i ≠ e) (h3 : nxt A B noC 5 = 3)
    (hD : ∀ LS : LoopSt, Runs pr (.fn kd) [.p (some (e, 0, 0)), .i .i64 3] (dueH h e ts c A B t 3 LS) (fun v g => v = .un ∧ g.get e = some (.rows 23 [eRow c'] false) ∧ g.get h.nx = some (.rows 1 [[.p (some (e, 0, 0))]] false) ∧ g.get (h.nx + 1) = some (.rows 1 [[.p (some (ts, 0, 0))]] false) ∧ g.get (h.nx + 2) = some (.rows 1 [[.i .i64 t]] false) ∧ g.get (h.nx + 3) = some (.loop { LS with st := .busy }) ∧
      g.get (h.nx + 4) = some (.rows 6 [cRow (fun i => decide (i = 3))] false) ∧ g.get ts = some (.rows 12 [tRow A' B'] false) ∧ h.nx + 5 ≤ g.nx ∧ ∀ i x, Kp i x → g.get i = some x)) (c17' : c' 17 = .i .i64 0) (c22' : c' 22 = nilS)
    (hq2 : nxt A' B' (fun i => decide (i = 3)) 5 = 0 ∨ t < A' (nxt A' B' (fun i => decide (i = 3)) 5)) :
    wpF pr (c_endpoint_End_Tick kD kd kf) [.p (some (e, 0, 0)), .i .i64 t] h (fun v g => v = nilS ∧ h.nx ≤ g.nx ∧ g.get e = some (.rows 23 [eRow c'] false) ∧ g.get ts = some (.rows 12 [tRow A' B'] false) ∧ ∀ i x, Kp i x → i ≠ ts → g.get i = some x) := by
  have hn : e ≠ h.nx := by omega
  have htn : ts ≠ h.nx := by omega
  have hn2 : ¬ h.nx = e := by omega
  have e1 : ¬ e = h.nx + 1 := by omega
  have e2 : ¬ e = h.nx + 2 := by omega
  have e3 : ¬ e = h.nx + 3 := by omega
  have t1 : ¬ ts = h.nx + 1 := by omega
  have t2 : ¬ ts = h.nx + 2 := by omega
  have t3 : ¬ ts = h.nx + 3 := by omega
  have te : ¬ ts = e := fun h => hne h.symm
  have n1 : ¬ t < now := by omega
  have n2 : ¬ t > 1099511627776 := by omega
  have z1 := @wpCall_ext pr kD _ xD
  have y1 : ∀ s n g, gDue k1 [.p s, .i .i64 n] g = some (.f (.fn k1) [.p (some (g.nx, 0, 0)), .p (some (g.nx + 1, 0, 0))], (g.push (.rows 1 [[.p s]] false)).push (.rows 1 [[.i .i64 n]] false)) := fun s n g => rfl
  have z2 := @wpCall_ext pr kf _ xf
  have z3 := @wpCall_ext pr kn _ xn
  unfold eRow at he
  unfold wpF c_endpoint_End_Tick
  refine ⟨by simp, ?_⟩
  simp only [↓STEP, go_sem, ↓reduceIte, Nat.reduceEqDiff, Nat.reduceLeDiff, Nat.reduceLT, Nat.reduceAdd, Nat.reduceSub, Nat.reduceMul, Int.reduceLT, Int.reduceLE, Int.reduceEq, Int.reduceAdd, Int.reduceSub, Int.reduceMul, Int.reduceNeg, Int.reduceToNat, reduceCtorEq, he, hn, c12, c15, c17, n1, n2, z1, y1, hn2]
  refine wpA_rfn rfl (k := k1) (caps := [.p (some (h.nx + 1, 0, 0)), .p (some (h.nx + 1 + 1, 0, 0))]) ?_ ?_
  · simp only [↓STEP, go_sem, ↓reduceIte, Nat.reduceEqDiff, Nat.reduceLeDiff, Nat.reduceLT, Nat.reduceAdd, Nat.reduceSub, Nat.reduceMul, Int.reduceLT, Int.reduceLE, Int.reduceEq, Int.reduceAdd, Int.reduceSub, Int.reduceMul, Int.reduceNeg, Int.reduceToNat, reduceCtorEq]
  simp only [↓STEP, go_sem, ↓reduceIte, Nat.reduceEqDiff, Nat.reduceLeDiff, Nat.reduceLT, Nat.reduceAdd, Nat.reduceSub, Nat.reduceMul, Int.reduceLT, Int.reduceLE, Int.reduceEq, Int.reduceAdd, Int.reduceSub, Int.reduceMul, Int.reduceNeg, Int.reduceToNat, reduceCtorEq]
  generalize hLS : LoopSt.mk _ _ _ _ _ _ _ = LS
  have q2 : LS.tm.v 2 = .p (some (h.nx, 0, 0)) := by rw [← hLS]; simp only [↓STEP, go_sem, ↓reduceIte, Nat.reduceEqDiff, Nat.reduceLeDiff, Nat.reduceLT, Nat.reduceAdd, Nat.reduceSub, Nat.reduceMul, Int.reduceLT, Int.reduceLE, Int.reduceEq, Int.reduceAdd, Int.reduceSub, Int.reduceMul, Int.reduceNeg, Int.reduceToNat, reduceCtorEq]
  have qs : LS.st = .ready := (congrArg LoopSt.st hLS).symm
  have qp : LS.pend = .normal := (congrArg LoopSt.pend hLS).symm
  have qa := (congrArg LoopSt.assign hLS).symm
  have qb := (congrArg LoopSt.body hLS).symm
  have qn := (congrArg LoopSt.nt hLS).symm
  have qpar := (congrArg LoopSt.params hLS).symm
  simp only at qa qb qn qpar
  have er : [c 0, c 1, c 2, c 3, c 4, c 5, c 6, c 7, c 8, c 9, c 10, c 11, V.i IntKind.i64 t, c 13, c 14, V.p (some (ts, 0, 0)), c 16, V.i IntKind.i64 0, c 18, c 19, c 20, c 21, c 22] = eRow (upd c 12 (.i .i64 t)) := by simp [eRow, upd, c15, c17]
  clear hLS
  rw [er]
  have hD := hD LS
  unfold dueH at hD
  change Runs pr (.fn k1) _ (tickG h e ts c t LS) _
  have gnx : (tickG h e ts c t LS).nx = h.nx + 4 := rfl
  have gts : (tickG h e ts c t LS).get ts = some (.rows 12 [tRow A B] false) := by unfold tickG; simp only [↓STEP, go_sem, ↓reduceIte, Nat.reduceEqDiff, Nat.reduceLeDiff, Nat.reduceLT, Nat.reduceAdd, Nat.reduceSub, Nat.reduceMul, Int.reduceLT, Int.reduceLE, Int.reduceEq, Int.reduceAdd, Int.reduceSub, Int.reduceMul, Int.reduceNeg, Int.reduceToNat, reduceCtorEq, htn, gt, t1, t2, t3, te]
  have g0 : (tickG h e ts c t LS).get h.nx = some (.rows 1 [[.p (some (e, 0, 0))]] false) := by unfold tickG; simp only [↓STEP, go_sem, ↓reduceIte, Nat.reduceEqDiff, Nat.reduceLeDiff, Nat.reduceLT, Nat.reduceAdd, Nat.reduceSub, Nat.reduceMul, Int.reduceLT, Int.reduceLE, Int.reduceEq, Int.reduceAdd, Int.reduceSub, Int.reduceMul, Int.reduceNeg, Int.reduceToNat, reduceCtorEq, hn2]
  have g1 : (tickG h e ts c t LS).get (h.nx + 1) = some (.rows 1 [[.p (some (ts, 0, 0))]] false) := by unfold tickG; simp only [↓STEP, go_sem, ↓reduceIte, Nat.reduceEqDiff, Nat.reduceLeDiff, Nat.reduceLT, Nat.reduceAdd, Nat.reduceSub, Nat.reduceMul, Int.reduceLT, Int.reduceLE, Int.reduceEq, Int.reduceAdd, Int.reduceSub, Int.reduceMul, Int.reduceNeg, Int.reduceToNat, reduceCtorEq]
  have g2 : (tickG h e ts c t LS).get (h.nx + 2) = some (.rows 1 [[.i .i64 t]] false) := by unfold tickG; simp only [↓STEP, go_sem, ↓reduceIte, Nat.reduceEqDiff, Nat.reduceLeDiff, Nat.reduceLT, Nat.reduceAdd, Nat.reduceSub, Nat.reduceMul, Int.reduceLT, Int.reduceLE, Int.reduceEq, Int.reduceAdd, Int.reduceSub, Int.reduceMul, Int.reduceNeg, Int.reduceToNat, reduceCtorEq]
  have g3 : (tickG h e ts c t LS).get (h.nx + 3) = some (.loop LS) := by unfold tickG; simp only [↓STEP, go_sem, ↓reduceIte, Nat.reduceEqDiff, Nat.reduceLeDiff, Nat.reduceLT, Nat.reduceAdd, Nat.reduceSub, Nat.reduceMul, Int.reduceLT, Int.reduceLE, Int.reduceEq, Int.reduceAdd, Int.reduceSub, Int.reduceMul, Int.reduceNeg, Int.reduceToNat, reduceCtorEq]
  generalize tickG h e ts c t LS = G at *
  have y3 : gRl NextR [.p (some (ts, 0, 0)), .agg [.b false, .b false, .b false, .b false, .b false, .b false]] (G.push (.rows 6 [[.b false, .b false, .b false, .b false, .b false, .b false]] false)) = some (.tup [.i .i64 (nxt A B noC 5 : Nat), .i .i64 (A (nxt A B noC 5)), .b (decide (0 < nxt A B noC 5))], G.push (.rows 6 [[.b false, .b false, .b false, .b false, .b false, .b false]] false)) :=
    gRl_at next_one ⟨ts, A, B, noC, rfl, by show ts < G.nx + 1; omega, by rw [H.get_push, if_neg (by omega)]; exact gts, rfl, rfl⟩
  refine runs_of_wpF x1 f1 ?_
  unfold wpF c_timer_Set_Due_1
  refine ⟨by simp, ?_⟩
  have m1 : ¬ h.nx + 1 = G.nx := by omega
  have m2 : ¬ h.nx + 2 = G.nx := by omega
  have m3 : ¬ h.nx + 3 = G.nx := by omega
  have m4 : ¬ h.nx = G.nx := by omega
  have m5 : ¬ h.nx = h.nx + 3 := by omega
  have z4 := @wpCall_ext pr ks _ xs
  have t4 : ¬ h.nx + 3 = ts := by omega
  have m6 : ¬ h.nx = ts := by omega
  simp only [↓STEP, go_sem, ↓reduceIte, Nat.reduceEqDiff, Nat.reduceLeDiff, Nat.reduceLT, Nat.reduceAdd, Nat.reduceSub, Nat.reduceMul, Int.reduceLT, Int.reduceLE, Int.reduceEq, Int.reduceAdd, Int.reduceSub, Int.reduceMul, Int.reduceNeg, Int.reduceToNat, reduceCtorEq, g1]
  refine wpA_loop ?_
  have hb := nxt_le A B noC 5
  rw [h3] at y3 hqt hb hq
  have hqb : ¬ A 3 > t := by omega
  have y5 : gStop [.p (some (ts, 0, 0)), .i .i64 3] ((G.push (.rows 6 [cRow noC] false)).set G.nx (.rows 6 [cRow (fun i => decide (i = 3))] false)) = _ := gStop_at (b := 3) (by omega) (by omega) (by rw [H.get_set, if_neg (by omega), H.get_push, if_neg (by omega)]; exact gts)
  have cn : cRow noC = [.b false, .b false, .b false, .b false, .b false, .b false] := rfl
  have cb : cRow (fun i => decide (i = 3)) = [.b false, .b false, .b false, .b true, .b false, .b false] := rfl
  rw [cn, cb] at y5
  rw [cn, cb] at hD
  rw [← gnx] at hD
  simp only [↓STEP, go_sem, ↓reduceIte, Nat.reduceEqDiff, Nat.reduceLeDiff, Nat.reduceLT, Nat.reduceAdd, Nat.reduceSub, Nat.reduceMul, Int.reduceLT, Int.reduceLE, Int.reduceEq, Int.reduceAdd, Int.reduceSub, Int.reduceMul, Int.reduceNeg, Int.reduceToNat, reduceCtorEq, g1, g2, m1, m2, z3, y3, hqb, z4, y5]
  refine wpCall_yl (L := LS) ?_ ?_ ?_
  · simp only [↓STEP, go_sem, ↓reduceIte, Nat.reduceEqDiff, Nat.reduceLeDiff, Nat.reduceLT, Nat.reduceAdd, Nat.reduceSub, Nat.reduceMul, Int.reduceLT, Int.reduceLE, Int.reduceEq, Int.reduceAdd, Int.reduceSub, Int.reduceMul, Int.reduceNeg, Int.reduceToNat, reduceCtorEq, m3, g3, t4]
  · rw [qpar]; rfl
  rw [qa, qb, qn, qpar]
  simp only [↓STEP, go_sem, ↓reduceIte, Nat.reduceEqDiff, Nat.reduceLeDiff, Nat.reduceLT, Nat.reduceAdd, Nat.reduceSub, Nat.reduceMul, Int.reduceLT, Int.reduceLE, Int.reduceEq, Int.reduceAdd, Int.reduceSub, Int.reduceMul, Int.reduceNeg, Int.reduceToNat, reduceCtorEq]
  refine ⟨LS, by rw [if_neg t4, if_neg m3, if_neg m3]; exact g3, qs, ?_⟩
  simp only [↓STEP, go_sem, ↓reduceIte, Nat.reduceEqDiff, Nat.reduceLeDiff, Nat.reduceLT, Nat.reduceAdd, Nat.reduceSub, Nat.reduceMul, Int.reduceLT, Int.reduceLE, Int.reduceEq, Int.reduceAdd, Int.reduceSub, Int.reduceMul, Int.reduceNeg, Int.reduceToNat, reduceCtorEq, stParams, Tm.v_st, q2, m5, m4, m6, g0]
  refine Runs.mono hD ?_
  rintro v g ⟨rfl, d1, d2, d2a, d2b, d3, d4, d4t, d4n, d5⟩
  have d1' := d1
  unfold eRow at d1
  simp only [↓STEP, go_sem, ↓reduceIte, Nat.reduceEqDiff, Nat.reduceLeDiff, Nat.reduceLT, Nat.reduceAdd, Nat.reduceSub, Nat.reduceMul, Int.reduceLT, Int.reduceLE, Int.reduceEq, Int.reduceAdd, Int.reduceSub, Int.reduceMul, Int.reduceNeg, Int.reduceToNat, reduceCtorEq, d1, d2, c17']
  refine ⟨_, d3, ?_⟩
  simp only [↓STEP, go_sem, ↓reduceIte, Nat.reduceEqDiff, Nat.reduceLeDiff, Nat.reduceLT, Nat.reduceAdd, Nat.reduceSub, Nat.reduceMul, Int.reduceLT, Int.reduceLE, Int.reduceEq, Int.reduceAdd, Int.reduceSub, Int.reduceMul, Int.reduceNeg, Int.reduceToNat, reduceCtorEq]
  generalize hX : Blk.loop _ = X
  have q3 : ∀ i, i ≠ h.nx + 3 → (g.set (h.nx + 3) X).get i = g.get i := fun i hi => by rw [H.get_set, if_neg hi]
  have q6 : LS.pend = .normal := qp
  have q4 : (g.set (h.nx + 3) X).get (h.nx + 3) = some X := by rw [H.get_set, if_pos rfl]
  have q5 : (g.set (h.nx + 3) X).nx = g.nx := rfl
  generalize g.set (h.nx + 3) X = g' at *
  have r1 := (q3 (h.nx + 1) (by omega)).trans d2a
  have r2 := (q3 (h.nx + 2) (by omega)).trans d2b
  have r4 := (q3 G.nx (by omega)).trans d4
  have rt := (q3 ts (by omega)).trans d4t
  have re := (q3 e (by omega)).trans d1'
  have r0 := (q3 h.nx (by omega)).trans d2
  have y7 : gRl NextR [.p (some (ts, 0, 0)), .agg [.b false, .b false, .b false, .b true, .b false, .b false]] g' = some (.tup [.i .i64 (nxt A' B' (fun i => decide (i = 3)) 5 : Nat), .i .i64 (A' (nxt A' B' (fun i => decide (i = 3)) 5)), .b (decide (0 < nxt A' B' (fun i => decide (i = 3)) 5))], g') :=
    gRl_at next_one ⟨ts, A', B', _, by rw [cb], by omega, rt, rfl, rfl⟩
  have y8 : ∀ g0 : H, g0.get e = some (.rows 23 [eRow c'] false) → gFlush [.p (some (e, 0, 0))] g0 = some (nilS, g0.set e (.rows 23 [eRow (upd c' 22 nilS)] false)) := fun g0 h0 => by
    rw [gFlush_at h0, c22']
  have rw22 : eRow (upd c' 22 nilS) = eRow c' := eRow_congr fun i hi => by
    unfold upd
    by_cases h1 : i = 22
    · subst h1; simp [c22']
    · simp [h1]
  rw [rw22] at y8
  have y9 := y8 (g'.kill (h.nx + 3)) (by rw [H.get_kill, if_neg (by omega)]; exact re)
  refine wpA_loop ?_
  have fin : h.nx ≤ ((g'.kill (h.nx + 3)).set e (.rows 23 [eRow c'] false)).nx ∧ ((g'.kill (h.nx + 3)).set e (.rows 23 [eRow c'] false)).get e = some (.rows 23 [eRow c'] false) ∧ ((g'.kill (h.nx + 3)).set e (.rows 23 [eRow c'] false)).get ts = some (.rows 12 [tRow A' B'] false) ∧ ∀ i x, Kp i x → i ≠ ts → ((g'.kill (h.nx + 3)).set e (.rows 23 [eRow c'] false)).get i = some x := by
    refine ⟨by show h.nx ≤ g'.nx; omega, by rw [H.get_set, if_pos rfl], by rw [H.get_set, if_neg te, H.get_kill, if_neg (by omega)]; exact rt, fun i x q hi => ?_⟩
    obtain ⟨a1, a2⟩ := hKp i x q
    rw [H.get_set, if_neg a2, H.get_kill, if_neg (by omega), q3 i (by omega)]
    exact d5 i x q
  generalize nxt A' B' (fun i => decide (i = 3)) 5 = b2 at *
  by_cases hb0 : b2 = 0
  · subst hb0
    simp only [↓STEP, go_sem, ↓reduceIte, Nat.reduceEqDiff, Nat.reduceLeDiff, Nat.reduceLT, Nat.reduceAdd, Nat.reduceSub, Nat.reduceMul, Int.reduceLT, Int.reduceLE, Int.reduceEq, Int.reduceAdd, Int.reduceSub, Int.reduceMul, Int.reduceNeg, Int.reduceToNat, reduceCtorEq, r1, r2, r4, z3, y7]
    refine ⟨_, q4.trans (congrArg some hX.symm), by simp, ?_⟩
    simp only [↓STEP, go_sem, ↓reduceIte, Nat.reduceEqDiff, Nat.reduceLeDiff, Nat.reduceLT, Nat.reduceAdd, Nat.reduceSub, Nat.reduceMul, Int.reduceLT, Int.reduceLE, Int.reduceEq, Int.reduceAdd, Int.reduceSub, Int.reduceMul, Int.reduceNeg, Int.reduceToNat, reduceCtorEq, q6, r0, m5, z2, y9]
    refine ⟨fin.1, ?_, fun i x q hi => ?_⟩
    · have := fin.2.2.1; rw [H.get_set, H.get_kill] at this; exact this
    · have := fin.2.2.2 i x q hi; rw [H.get_set, H.get_kill] at this; exact this
  · have hp2 : 0 < b2 := by omega
    have hqb2 : t < A' b2 := by rcases hq2 with hq2 | hq2; exact absurd hq2 hb0; exact hq2
    have hqb2 : A' b2 > t := hqb2
    simp only [↓STEP, go_sem, ↓reduceIte, Nat.reduceEqDiff, Nat.reduceLeDiff, Nat.reduceLT, Nat.reduceAdd, Nat.reduceSub, Nat.reduceMul, Int.reduceLT, Int.reduceLE, Int.reduceEq, Int.reduceAdd, Int.reduceSub, Int.reduceMul, Int.reduceNeg, Int.reduceToNat, reduceCtorEq, r1, r2, r4, z3, y7, hp2, hqb2]
    refine ⟨_, q4.trans (congrArg some hX.symm), by simp, ?_⟩
    simp only [↓STEP, go_sem, ↓reduceIte, Nat.reduceEqDiff, Nat.reduceLeDiff, Nat.reduceLT, Nat.reduceAdd, Nat.reduceSub, Nat.reduceMul, Int.reduceLT, Int.reduceLE, Int.reduceEq, Int.reduceAdd, Int.reduceSub, Int.reduceMul, Int.reduceNeg, Int.reduceToNat, reduceCtorEq, q6, r0, m5, z2, y9]
    refine ⟨fin.1, ?_, fun i x q hi => ?_⟩
    · have := fin.2.2.1; rw [H.get_set, H.get_kill] at this; exact this
    · have := fin.2.2.2 i x q hi; rw [H.get_set, H.get_kill] at this; exact this
end Am
