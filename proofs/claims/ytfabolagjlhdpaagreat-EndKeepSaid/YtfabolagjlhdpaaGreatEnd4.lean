/- endpoint: a tick at which something is due. -/
import Derived.Test.YtfabolagjlhdpaaGreatEnd3
namespace Am
set_option linter.all false
set_option maxRecDepth 20000
set_option maxHeartbeats 8000000
open Go (IntKind)
variable {pr : Prog}
def tickG (h : H) (e ts : Nat) (c : Nat → V) (t : Int) (LS : LoopSt) : H := ((((h.push (.rows 1 [[.p (some (e, 0, 0))]] false)).set e (.rows 23 [eRow (upd c 12 (.i .i64 t))] false)).push (.rows 1 [[.p (some (ts, 0, 0))]] false)).push (.rows 1 [[.i .i64 t]] false)).push (.loop LS)
/-- The heap at which what is due is done. -/
def dueH (h : H) (e ts : Nat) (c : Nat → V) (A : Nat → Int) (B : Nat → Bool) (t : Int) (b : Nat) (LS : LoopSt) : H :=
  ((((tickG h e ts c t LS).push (.rows 6 [cRow noC] false)).set (h.nx + 4) (.rows 6 [cRow (fun i => decide (i = b))] false)).set ts (.rows 12 [tRow (fun i => if i = b then 0 else A i) (fun i => if i = b then false else B i)] false)).set (h.nx + 3) (.loop { LS with st := .busy })
theorem gStop_at {X : H} {ts : Nat} {A : Nat → Int} {B : Nat → Bool} {b : Nat} (h1 : 1 ≤ b) (h5 : b ≤ 5) (g : X.get ts = some (.rows 12 [tRow A B] false)) :
    gStop [.p (some (ts, 0, 0)), .i .i64 (b : Nat)] X = some (.un, X.set ts (.rows 12 [tRow (fun i => if i = b then 0 else A i) (fun i => if i = b then false else B i)] false)) := by
  unfold gStop
  simp only
  rw [if_pos ⟨by omega, by omega⟩]
  unfold H.wr
  rw [g]
  match b, h1, h5 with
  | 1, _, _ => rfl
  | 2, _, _ => rfl
  | 3, _, _ => rfl
  | 4, _, _ => rfl
  | 5, _, _ => rfl
  | b + 6, _, h => exact absurd h (by omega)
theorem tick_close {kD kd kf k1 kn ks : Nat} (xD : pr.ext kD = some (gDue k1)) (xf : pr.ext kf = some gFlush) (x1 : pr.ext k1 = none) (f1 : pr.fn k1 = some (c_timer_Set_Due_1 kn ks)) (xn : pr.ext kn = some (gRl NextR))
    {e ts : Nat} {c : Nat → V} {A : Nat → Int} {B : Nat → Bool} {now t : Int} {h : H} (he : h.get e = some (.rows 23 [eRow c] false)) (hlt : e < h.nx) (c12 : c 12 = .i .i64 now) (c15 : c 15 = .p (some (ts, 0, 0))) (c17 : c 17 = .i .i64 0) (c22 : c 22 = nilS)
    (h1 : now ≤ t) (h2 : t ≤ 1099511627776) (hts : ts < h.nx) (hne : e ≠ ts) (gt : h.get ts = some (.rows 12 [tRow A B] false)) (xs : pr.ext ks = some gStop) (hq : nxt A B noC 5 ≠ 0) (hqt : A (nxt A B noC 5) ≤ t) {why : Int} (hwhy : why ≠ 0) {c' : Nat → V} {Kp : Nat → Blk → Prop} (hKp : ∀ i x, Kp i x → i < h.nx ∧ i ≠ e)
    (hD : ∀ LS : LoopSt, Runs pr (.fn kd) [.p (some (e, 0, 0)), .i .i64 (nxt A B noC 5 : Nat)] (dueH h e ts c A B t (nxt A B noC 5) LS) (fun v g => v = .un ∧ g.get e = some (.rows 23 [eRow c'] false) ∧ g.get h.nx = some (.rows 1 [[.p (some (e, 0, 0))]] false) ∧ g.get (h.nx + 3) = some (.loop { LS with st := .busy }) ∧ h.nx + 3 < g.nx ∧ ∀ i x, Kp i x → g.get i = some x)) (c17' : c' 17 = .i .i64 why) :
    wpF pr (c_endpoint_End_Tick kD kd kf) [.p (some (e, 0, 0)), .i .i64 t] h (fun v g => v = c' 22 ∧ h.nx ≤ g.nx ∧ g.get e = some (.rows 23 [eRow (upd c' 22 nilS)] false) ∧ ∀ i x, Kp i x → g.get i = some x) := by
  have hn : e ≠ h.nx := by omega
  have htn : ts ≠ h.nx := by omega
  have hn2 : ¬ h.nx = e := by omega
  have e1 : ¬ e = h.nx + 1 := by omega
  have e2 : ¬ e = h.nx + 2 := by omega
  have e3 : ¬ e = h.nx + 3 := by omega
  have t1 : ¬ ts = h.nx + 1 := by omega
  have t2 : ¬ ts = h.nx + 2 := by omega
  have t3 : ¬ ts = h.nx + 3 := by omega
  have te : ¬ ts = e := fun h => hne h.symm
  have n1 : ¬ t < now := by omega
  have n2 : ¬ t > 1099511627776 := by omega
  have z1 := @wpCall_ext pr kD _ xD
  have y1 : ∀ s n g, gDue k1 [.p s, .i .i64 n] g = some (.f (.fn k1) [.p (some (g.nx, 0, 0)), .p (some (g.nx + 1, 0, 0))], (g.push (.rows 1 [[.p s]] false)).push (.rows 1 [[.i .i64 n]] false)) := fun s n g => rfl
  have z2 := @wpCall_ext pr kf _ xf
  have z3 := @wpCall_ext pr kn _ xn
  unfold eRow at he
  unfold wpF c_endpoint_End_Tick
  refine ⟨by simp, ?_⟩
  simp only [↓STEP, go_sem, ↓reduceIte, Nat.reduceEqDiff, Nat.reduceLeDiff, Nat.reduceLT, Nat.reduceAdd, Nat.reduceSub, Nat.reduceMul, Int.reduceLT, Int.reduceLE, Int.reduceEq, Int.reduceAdd, Int.reduceSub, Int.reduceMul, Int.reduceNeg, Int.reduceToNat, reduceCtorEq, he, hn, c12, c15, c17, n1, n2, z1, y1, hn2]
  refine wpA_rfn rfl (k := k1) (caps := [.p (some (h.nx + 1, 0, 0)), .p (some (h.nx + 1 + 1, 0, 0))]) ?_ ?_
  · simp only [↓STEP, go_sem, ↓reduceIte, Nat.reduceEqDiff, Nat.reduceLeDiff, Nat.reduceLT, Nat.reduceAdd, Nat.reduceSub, Nat.reduceMul, Int.reduceLT, Int.reduceLE, Int.reduceEq, Int.reduceAdd, Int.reduceSub, Int.reduceMul, Int.reduceNeg, Int.reduceToNat, reduceCtorEq]
  simp only [↓STEP, go_sem, ↓reduceIte, Nat.reduceEqDiff, Nat.reduceLeDiff, Nat.reduceLT, Nat.reduceAdd, Nat.reduceSub, Nat.reduceMul, Int.reduceLT, Int.reduceLE, Int.reduceEq, Int.reduceAdd, Int.reduceSub, Int.reduceMul, Int.reduceNeg, Int.reduceToNat, reduceCtorEq]
  generalize hLS : LoopSt.mk _ _ _ _ _ _ _ = LS
  have q2 : LS.tm.v 2 = .p (some (h.nx, 0, 0)) := by rw [← hLS]; simp only [↓STEP, go_sem, ↓reduceIte, Nat.reduceEqDiff, Nat.reduceLeDiff, Nat.reduceLT, Nat.reduceAdd, Nat.reduceSub, Nat.reduceMul, Int.reduceLT, Int.reduceLE, Int.reduceEq, Int.reduceAdd, Int.reduceSub, Int.reduceMul, Int.reduceNeg, Int.reduceToNat, reduceCtorEq]
  have qs : LS.st = .ready := (congrArg LoopSt.st hLS).symm
  have qa := (congrArg LoopSt.assign hLS).symm
  have qb := (congrArg LoopSt.body hLS).symm
  have qn := (congrArg LoopSt.nt hLS).symm
  have qpar := (congrArg LoopSt.params hLS).symm
  simp only at qa qb qn qpar
  have er : [c 0, c 1, c 2, c 3, c 4, c 5, c 6, c 7, c 8, c 9, c 10, c 11, V.i IntKind.i64 t, c 13, c 14, V.p (some (ts, 0, 0)), c 16, V.i IntKind.i64 0, c 18, c 19, c 20, c 21, c 22] = eRow (upd c 12 (.i .i64 t)) := by simp [eRow, upd, c15, c17]
  clear hLS
  rw [er]
  have hD := hD LS
  unfold dueH at hD
  change Runs pr (.fn k1) _ (tickG h e ts c t LS) _
  have gnx : (tickG h e ts c t LS).nx = h.nx + 4 := rfl
  have gts : (tickG h e ts c t LS).get ts = some (.rows 12 [tRow A B] false) := by unfold tickG; simp only [↓STEP, go_sem, ↓reduceIte, Nat.reduceEqDiff, Nat.reduceLeDiff, Nat.reduceLT, Nat.reduceAdd, Nat.reduceSub, Nat.reduceMul, Int.reduceLT, Int.reduceLE, Int.reduceEq, Int.reduceAdd, Int.reduceSub, Int.reduceMul, Int.reduceNeg, Int.reduceToNat, reduceCtorEq, htn, gt, t1, t2, t3, te]
  have g0 : (tickG h e ts c t LS).get h.nx = some (.rows 1 [[.p (some (e, 0, 0))]] false) := by unfold tickG; simp only [↓STEP, go_sem, ↓reduceIte, Nat.reduceEqDiff, Nat.reduceLeDiff, Nat.reduceLT, Nat.reduceAdd, Nat.reduceSub, Nat.reduceMul, Int.reduceLT, Int.reduceLE, Int.reduceEq, Int.reduceAdd, Int.reduceSub, Int.reduceMul, Int.reduceNeg, Int.reduceToNat, reduceCtorEq, hn2]
  have g1 : (tickG h e ts c t LS).get (h.nx + 1) = some (.rows 1 [[.p (some (ts, 0, 0))]] false) := by unfold tickG; simp only [↓STEP, go_sem, ↓reduceIte, Nat.reduceEqDiff, Nat.reduceLeDiff, Nat.reduceLT, Nat.reduceAdd, Nat.reduceSub, Nat.reduceMul, Int.reduceLT, Int.reduceLE, Int.reduceEq, Int.reduceAdd, Int.reduceSub, Int.reduceMul, Int.reduceNeg, Int.reduceToNat, reduceCtorEq]
  have g2 : (tickG h e ts c t LS).get (h.nx + 2) = some (.rows 1 [[.i .i64 t]] false) := by unfold tickG; simp only [↓STEP, go_sem, ↓reduceIte, Nat.reduceEqDiff, Nat.reduceLeDiff, Nat.reduceLT, Nat.reduceAdd, Nat.reduceSub, Nat.reduceMul, Int.reduceLT, Int.reduceLE, Int.reduceEq, Int.reduceAdd, Int.reduceSub, Int.reduceMul, Int.reduceNeg, Int.reduceToNat, reduceCtorEq]
  have g3 : (tickG h e ts c t LS).get (h.nx + 3) = some (.loop LS) := by unfold tickG; simp only [↓STEP, go_sem, ↓reduceIte, Nat.reduceEqDiff, Nat.reduceLeDiff, Nat.reduceLT, Nat.reduceAdd, Nat.reduceSub, Nat.reduceMul, Int.reduceLT, Int.reduceLE, Int.reduceEq, Int.reduceAdd, Int.reduceSub, Int.reduceMul, Int.reduceNeg, Int.reduceToNat, reduceCtorEq]
  generalize tickG h e ts c t LS = G at *
  have y3 : gRl NextR [.p (some (ts, 0, 0)), .agg [.b false, .b false, .b false, .b false, .b false, .b false]] (G.push (.rows 6 [[.b false, .b false, .b false, .b false, .b false, .b false]] false)) = some (.tup [.i .i64 (nxt A B noC 5 : Nat), .i .i64 (A (nxt A B noC 5)), .b (decide (0 < nxt A B noC 5))], G.push (.rows 6 [[.b false, .b false, .b false, .b false, .b false, .b false]] false)) :=
    gRl_at next_one ⟨ts, A, B, noC, rfl, by show ts < G.nx + 1; omega, by rw [H.get_push, if_neg (by omega)]; exact gts, rfl, rfl⟩
  refine runs_of_wpF x1 f1 ?_
  unfold wpF c_timer_Set_Due_1
  refine ⟨by simp, ?_⟩
  have m1 : ¬ h.nx + 1 = G.nx := by omega
  have m2 : ¬ h.nx + 2 = G.nx := by omega
  have m3 : ¬ h.nx + 3 = G.nx := by omega
  have m4 : ¬ h.nx = G.nx := by omega
  have m5 : ¬ h.nx = h.nx + 3 := by omega
  have z4 := @wpCall_ext pr ks _ xs
  have t4 : ¬ h.nx + 3 = ts := by omega
  have m6 : ¬ h.nx = ts := by omega
  simp only [↓STEP, go_sem, ↓reduceIte, Nat.reduceEqDiff, Nat.reduceLeDiff, Nat.reduceLT, Nat.reduceAdd, Nat.reduceSub, Nat.reduceMul, Int.reduceLT, Int.reduceLE, Int.reduceEq, Int.reduceAdd, Int.reduceSub, Int.reduceMul, Int.reduceNeg, Int.reduceToNat, reduceCtorEq, g1]
  refine wpA_loop ?_
  have hb := nxt_le A B noC 5
  generalize nxt A B noC 5 = b at *
  have hp : 0 < b := by omega
  have hqb : ¬ A b > t := by omega
  match b, hb, hq with
  | 0, _, hq => exact absurd rfl hq
  | 1, _, _ =>
    have y5 : gStop [.p (some (ts, 0, 0)), .i .i64 1] ((G.push (.rows 6 [cRow noC] false)).set G.nx (.rows 6 [cRow (fun i => decide (i = 1))] false)) = _ := gStop_at (b := 1) (by omega) (by omega) (by rw [H.get_set, if_neg (by omega), H.get_push, if_neg (by omega)]; exact gts)
    have cn : cRow noC = [.b false, .b false, .b false, .b false, .b false, .b false] := rfl
    have cb : cRow (fun i => decide (i = 1)) = [.b false, .b true, .b false, .b false, .b false, .b false] := rfl
    rw [cn, cb] at y5 hD
    rw [← gnx] at hD
    simp only [↓STEP, go_sem, ↓reduceIte, Nat.reduceEqDiff, Nat.reduceLeDiff, Nat.reduceLT, Nat.reduceAdd, Nat.reduceSub, Nat.reduceMul, Int.reduceLT, Int.reduceLE, Int.reduceEq, Int.reduceAdd, Int.reduceSub, Int.reduceMul, Int.reduceNeg, Int.reduceToNat, reduceCtorEq, g1, g2, m1, m2, z3, y3, hp, hqb, z4, y5]
    refine wpCall_yl (L := LS) ?_ ?_ ?_
    · simp only [↓STEP, go_sem, ↓reduceIte, Nat.reduceEqDiff, Nat.reduceLeDiff, Nat.reduceLT, Nat.reduceAdd, Nat.reduceSub, Nat.reduceMul, Int.reduceLT, Int.reduceLE, Int.reduceEq, Int.reduceAdd, Int.reduceSub, Int.reduceMul, Int.reduceNeg, Int.reduceToNat, reduceCtorEq, m3, g3, t4]
    · rw [qpar]; rfl
    rw [qa, qb, qn, qpar]
    simp only [↓STEP, go_sem, ↓reduceIte, Nat.reduceEqDiff, Nat.reduceLeDiff, Nat.reduceLT, Nat.reduceAdd, Nat.reduceSub, Nat.reduceMul, Int.reduceLT, Int.reduceLE, Int.reduceEq, Int.reduceAdd, Int.reduceSub, Int.reduceMul, Int.reduceNeg, Int.reduceToNat, reduceCtorEq]
    refine ⟨LS, by rw [if_neg t4, if_neg m3, if_neg m3]; exact g3, qs, ?_⟩
    simp only [↓STEP, go_sem, ↓reduceIte, Nat.reduceEqDiff, Nat.reduceLeDiff, Nat.reduceLT, Nat.reduceAdd, Nat.reduceSub, Nat.reduceMul, Int.reduceLT, Int.reduceLE, Int.reduceEq, Int.reduceAdd, Int.reduceSub, Int.reduceMul, Int.reduceNeg, Int.reduceToNat, reduceCtorEq, stParams, Tm.v_st, q2, m5, m4, m6, g0]
    refine Runs.mono hD ?_
    rintro v g ⟨rfl, d1, d2, d3, d4, d5⟩
    have d1' := d1
    unfold eRow at d1
    simp only [↓STEP, go_sem, ↓reduceIte, Nat.reduceEqDiff, Nat.reduceLeDiff, Nat.reduceLT, Nat.reduceAdd, Nat.reduceSub, Nat.reduceMul, Int.reduceLT, Int.reduceLE, Int.reduceEq, Int.reduceAdd, Int.reduceSub, Int.reduceMul, Int.reduceNeg, Int.reduceToNat, reduceCtorEq, d1, d2, c17', hwhy]
    refine ⟨_, d3, ?_⟩
    simp only [↓STEP, go_sem, ↓reduceIte, Nat.reduceEqDiff, Nat.reduceLeDiff, Nat.reduceLT, Nat.reduceAdd, Nat.reduceSub, Nat.reduceMul, Int.reduceLT, Int.reduceLE, Int.reduceEq, Int.reduceAdd, Int.reduceSub, Int.reduceMul, Int.reduceNeg, Int.reduceToNat, reduceCtorEq]
    refine ⟨_, rfl, by simp, ?_⟩
    have y6 : ∀ X, gFlush [.p (some (e, 0, 0))] ((g.set (h.nx + 3) X).kill (h.nx + 3)) = some (c' 22, ((g.set (h.nx + 3) X).kill (h.nx + 3)).set e (.rows 23 [eRow (upd c' 22 nilS)] false)) := fun X =>
      gFlush_at (c := c') (by rw [H.get_kill, if_neg (by omega), H.get_set, if_neg (by omega)]; exact d1')
    simp only [↓STEP, go_sem, ↓reduceIte, Nat.reduceEqDiff, Nat.reduceLeDiff, Nat.reduceLT, Nat.reduceAdd, Nat.reduceSub, Nat.reduceMul, Int.reduceLT, Int.reduceLE, Int.reduceEq, Int.reduceAdd, Int.reduceSub, Int.reduceMul, Int.reduceNeg, Int.reduceToNat, reduceCtorEq, d2, m5, z2, y6]
    refine ⟨by omega, fun i x q => ?_⟩
    obtain ⟨a1, a2⟩ := hKp i x q
    repeat rw [if_neg (by omega)]
    exact d5 i x q
  | 2, _, _ =>
    have y5 : gStop [.p (some (ts, 0, 0)), .i .i64 2] ((G.push (.rows 6 [cRow noC] false)).set G.nx (.rows 6 [cRow (fun i => decide (i = 2))] false)) = _ := gStop_at (b := 2) (by omega) (by omega) (by rw [H.get_set, if_neg (by omega), H.get_push, if_neg (by omega)]; exact gts)
    have cn : cRow noC = [.b false, .b false, .b false, .b false, .b false, .b false] := rfl
    have cb : cRow (fun i => decide (i = 2)) = [.b false, .b false, .b true, .b false, .b false, .b false] := rfl
    rw [cn, cb] at y5 hD
    rw [← gnx] at hD
    simp only [↓STEP, go_sem, ↓reduceIte, Nat.reduceEqDiff, Nat.reduceLeDiff, Nat.reduceLT, Nat.reduceAdd, Nat.reduceSub, Nat.reduceMul, Int.reduceLT, Int.reduceLE, Int.reduceEq, Int.reduceAdd, Int.reduceSub, Int.reduceMul, Int.reduceNeg, Int.reduceToNat, reduceCtorEq, g1, g2, m1, m2, z3, y3, hp, hqb, z4, y5]
    refine wpCall_yl (L := LS) ?_ ?_ ?_
    · simp only [↓STEP, go_sem, ↓reduceIte, Nat.reduceEqDiff, Nat.reduceLeDiff, Nat.reduceLT, Nat.reduceAdd, Nat.reduceSub, Nat.reduceMul, Int.reduceLT, Int.reduceLE, Int.reduceEq, Int.reduceAdd, Int.reduceSub, Int.reduceMul, Int.reduceNeg, Int.reduceToNat, reduceCtorEq, m3, g3, t4]
    · rw [qpar]; rfl
    rw [qa, qb, qn, qpar]
    simp only [↓STEP, go_sem, ↓reduceIte, Nat.reduceEqDiff, Nat.reduceLeDiff, Nat.reduceLT, Nat.reduceAdd, Nat.reduceSub, Nat.reduceMul, Int.reduceLT, Int.reduceLE, Int.reduceEq, Int.reduceAdd, Int.reduceSub, Int.reduceMul, Int.reduceNeg, Int.reduceToNat, reduceCtorEq]
    refine ⟨LS, by rw [if_neg t4, if_neg m3, if_neg m3]; exact g3, qs, ?_⟩
    simp only [↓STEP, go_sem, ↓reduceIte, Nat.reduceEqDiff, Nat.reduceLeDiff, Nat.reduceLT, Nat.reduceAdd, Nat.reduceSub, Nat.reduceMul, Int.reduceLT, Int.reduceLE, Int.reduceEq, Int.reduceAdd, Int.reduceSub, Int.reduceMul, Int.reduceNeg, Int.reduceToNat, reduceCtorEq, stParams, Tm.v_st, q2, m5, m4, m6, g0]
    refine Runs.mono hD ?_
    rintro v g ⟨rfl, d1, d2, d3, d4, d5⟩
    have d1' := d1
    unfold eRow at d1
    simp only [↓STEP, go_sem, ↓reduceIte, Nat.reduceEqDiff, Nat.reduceLeDiff, Nat.reduceLT, Nat.reduceAdd, Nat.reduceSub, Nat.reduceMul, Int.reduceLT, Int.reduceLE, Int.reduceEq, Int.reduceAdd, Int.reduceSub, Int.reduceMul, Int.reduceNeg, Int.reduceToNat, reduceCtorEq, d1, d2, c17', hwhy]
    refine ⟨_, d3, ?_⟩
    simp only [↓STEP, go_sem, ↓reduceIte, Nat.reduceEqDiff, Nat.reduceLeDiff, Nat.reduceLT, Nat.reduceAdd, Nat.reduceSub, Nat.reduceMul, Int.reduceLT, Int.reduceLE, Int.reduceEq, Int.reduceAdd, Int.reduceSub, Int.reduceMul, Int.reduceNeg, Int.reduceToNat, reduceCtorEq]
    refine ⟨_, rfl, by simp, ?_⟩
    have y6 : ∀ X, gFlush [.p (some (e, 0, 0))] ((g.set (h.nx + 3) X).kill (h.nx + 3)) = some (c' 22, ((g.set (h.nx + 3) X).kill (h.nx + 3)).set e (.rows 23 [eRow (upd c' 22 nilS)] false)) := fun X =>
      gFlush_at (c := c') (by rw [H.get_kill, if_neg (by omega), H.get_set, if_neg (by omega)]; exact d1')
    simp only [↓STEP, go_sem, ↓reduceIte, Nat.reduceEqDiff, Nat.reduceLeDiff, Nat.reduceLT, Nat.reduceAdd, Nat.reduceSub, Nat.reduceMul, Int.reduceLT, Int.reduceLE, Int.reduceEq, Int.reduceAdd, Int.reduceSub, Int.reduceMul, Int.reduceNeg, Int.reduceToNat, reduceCtorEq, d2, m5, z2, y6]
    refine ⟨by omega, fun i x q => ?_⟩
    obtain ⟨a1, a2⟩ := hKp i x q
    repeat rw [if_neg (by omega)]
    exact d5 i x q
  | 3, _, _ =>
    have y5 : gStop [.p (some (ts, 0, 0)), .i .i64 3] ((G.push (.rows 6 [cRow noC] false)).set G.nx (.rows 6 [cRow (fun i => decide (i = 3))] false)) = _ := gStop_at (b := 3) (by omega) (by omega) (by rw [H.get_set, if_neg (by omega), H.get_push, if_neg (by omega)]; exact gts)
    have cn : cRow noC = [.b false, .b false, .b false, .b false, .b false, .b false] := rfl
    have cb : cRow (fun i => decide (i = 3)) = [.b false, .b false, .b false, .b true, .b false, .b false] := rfl
    rw [cn, cb] at y5 hD
    rw [← gnx] at hD
    simp only [↓STEP, go_sem, ↓reduceIte, Nat.reduceEqDiff, Nat.reduceLeDiff, Nat.reduceLT, Nat.reduceAdd, Nat.reduceSub, Nat.reduceMul, Int.reduceLT, Int.reduceLE, Int.reduceEq, Int.reduceAdd, Int.reduceSub, Int.reduceMul, Int.reduceNeg, Int.reduceToNat, reduceCtorEq, g1, g2, m1, m2, z3, y3, hp, hqb, z4, y5]
    refine wpCall_yl (L := LS) ?_ ?_ ?_
    · simp only [↓STEP, go_sem, ↓reduceIte, Nat.reduceEqDiff, Nat.reduceLeDiff, Nat.reduceLT, Nat.reduceAdd, Nat.reduceSub, Nat.reduceMul, Int.reduceLT, Int.reduceLE, Int.reduceEq, Int.reduceAdd, Int.reduceSub, Int.reduceMul, Int.reduceNeg, Int.reduceToNat, reduceCtorEq, m3, g3, t4]
    · rw [qpar]; rfl
    rw [qa, qb, qn, qpar]
    simp only [↓STEP, go_sem, ↓reduceIte, Nat.reduceEqDiff, Nat.reduceLeDiff, Nat.reduceLT, Nat.reduceAdd, Nat.reduceSub, Nat.reduceMul, Int.reduceLT, Int.reduceLE, Int.reduceEq, Int.reduceAdd, Int.reduceSub, Int.reduceMul, Int.reduceNeg, Int.reduceToNat, reduceCtorEq]
    refine ⟨LS, by rw [if_neg t4, if_neg m3, if_neg m3]; exact g3, qs, ?_⟩
    simp only [↓STEP, go_sem, ↓reduceIte, Nat.reduceEqDiff, Nat.reduceLeDiff, Nat.reduceLT, Nat.reduceAdd, Nat.reduceSub, Nat.reduceMul, Int.reduceLT, Int.reduceLE, Int.reduceEq, Int.reduceAdd, Int.reduceSub, Int.reduceMul, Int.reduceNeg, Int.reduceToNat, reduceCtorEq, stParams, Tm.v_st, q2, m5, m4, m6, g0]
    refine Runs.mono hD ?_
    rintro v g ⟨rfl, d1, d2, d3, d4, d5⟩
    have d1' := d1
    unfold eRow at d1
    simp only [↓STEP, go_sem, ↓reduceIte, Nat.reduceEqDiff, Nat.reduceLeDiff, Nat.reduceLT, Nat.reduceAdd, Nat.reduceSub, Nat.reduceMul, Int.reduceLT, Int.reduceLE, Int.reduceEq, Int.reduceAdd, Int.reduceSub, Int.reduceMul, Int.reduceNeg, Int.reduceToNat, reduceCtorEq, d1, d2, c17', hwhy]
    refine ⟨_, d3, ?_⟩
    simp only [↓STEP, go_sem, ↓reduceIte, Nat.reduceEqDiff, Nat.reduceLeDiff, Nat.reduceLT, Nat.reduceAdd, Nat.reduceSub, Nat.reduceMul, Int.reduceLT, Int.reduceLE, Int.reduceEq, Int.reduceAdd, Int.reduceSub, Int.reduceMul, Int.reduceNeg, Int.reduceToNat, reduceCtorEq]
    refine ⟨_, rfl, by simp, ?_⟩
    have y6 : ∀ X, gFlush [.p (some (e, 0, 0))] ((g.set (h.nx + 3) X).kill (h.nx + 3)) = some (c' 22, ((g.set (h.nx + 3) X).kill (h.nx + 3)).set e (.rows 23 [eRow (upd c' 22 nilS)] false)) := fun X =>
      gFlush_at (c := c') (by rw [H.get_kill, if_neg (by omega), H.get_set, if_neg (by omega)]; exact d1')
    simp only [↓STEP, go_sem, ↓reduceIte, Nat.reduceEqDiff, Nat.reduceLeDiff, Nat.reduceLT, Nat.reduceAdd, Nat.reduceSub, Nat.reduceMul, Int.reduceLT, Int.reduceLE, Int.reduceEq, Int.reduceAdd, Int.reduceSub, Int.reduceMul, Int.reduceNeg, Int.reduceToNat, reduceCtorEq, d2, m5, z2, y6]
    refine ⟨by omega, fun i x q => ?_⟩
    obtain ⟨a1, a2⟩ := hKp i x q
    repeat rw [if_neg (by omega)]
    exact d5 i x q
  | 4, _, _ =>
    have y5 : gStop [.p (some (ts, 0, 0)), .i .i64 4] ((G.push (.rows 6 [cRow noC] false)).set G.nx (.rows 6 [cRow (fun i => decide (i = 4))] false)) = _ := gStop_at (b := 4) (by omega) (by omega) (by rw [H.get_set, if_neg (by omega), H.get_push, if_neg (by omega)]; exact gts)
    have cn : cRow noC = [.b false, .b false, .b false, .b false, .b false, .b false] := rfl
    have cb : cRow (fun i => decide (i = 4)) = [.b false, .b false, .b false, .b false, .b true, .b false] := rfl
    rw [cn, cb] at y5 hD
    rw [← gnx] at hD
    simp only [↓STEP, go_sem, ↓reduceIte, Nat.reduceEqDiff, Nat.reduceLeDiff, Nat.reduceLT, Nat.reduceAdd, Nat.reduceSub, Nat.reduceMul, Int.reduceLT, Int.reduceLE, Int.reduceEq, Int.reduceAdd, Int.reduceSub, Int.reduceMul, Int.reduceNeg, Int.reduceToNat, reduceCtorEq, g1, g2, m1, m2, z3, y3, hp, hqb, z4, y5]
    refine wpCall_yl (L := LS) ?_ ?_ ?_
    · simp only [↓STEP, go_sem, ↓reduceIte, Nat.reduceEqDiff, Nat.reduceLeDiff, Nat.reduceLT, Nat.reduceAdd, Nat.reduceSub, Nat.reduceMul, Int.reduceLT, Int.reduceLE, Int.reduceEq, Int.reduceAdd, Int.reduceSub, Int.reduceMul, Int.reduceNeg, Int.reduceToNat, reduceCtorEq, m3, g3, t4]
    · rw [qpar]; rfl
    rw [qa, qb, qn, qpar]
    simp only [↓STEP, go_sem, ↓reduceIte, Nat.reduceEqDiff, Nat.reduceLeDiff, Nat.reduceLT, Nat.reduceAdd, Nat.reduceSub, Nat.reduceMul, Int.reduceLT, Int.reduceLE, Int.reduceEq, Int.reduceAdd, Int.reduceSub, Int.reduceMul, Int.reduceNeg, Int.reduceToNat, reduceCtorEq]
    refine ⟨LS, by rw [if_neg t4, if_neg m3, if_neg m3]; exact g3, qs, ?_⟩
    simp only [↓STEP, go_sem, ↓reduceIte, Nat.reduceEqDiff, Nat.reduceLeDiff, Nat.reduceLT, Nat.reduceAdd, Nat.reduceSub, Nat.reduceMul, Int.reduceLT, Int.reduceLE, Int.reduceEq, Int.reduceAdd, Int.reduceSub, Int.reduceMul, Int.reduceNeg, Int.reduceToNat, reduceCtorEq, stParams, Tm.v_st, q2, m5, m4, m6, g0]
    refine Runs.mono hD ?_
    rintro v g ⟨rfl, d1, d2, d3, d4, d5⟩
    have d1' := d1
    unfold eRow at d1
    simp only [↓STEP, go_sem, ↓reduceIte, Nat.reduceEqDiff, Nat.reduceLeDiff, Nat.reduceLT, Nat.reduceAdd, Nat.reduceSub, Nat.reduceMul, Int.reduceLT, Int.reduceLE, Int.reduceEq, Int.reduceAdd, Int.reduceSub, Int.reduceMul, Int.reduceNeg, Int.reduceToNat, reduceCtorEq, d1, d2, c17', hwhy]
    refine ⟨_, d3, ?_⟩
    simp only [↓STEP, go_sem, ↓reduceIte, Nat.reduceEqDiff, Nat.reduceLeDiff, Nat.reduceLT, Nat.reduceAdd, Nat.reduceSub, Nat.reduceMul, Int.reduceLT, Int.reduceLE, Int.reduceEq, Int.reduceAdd, Int.reduceSub, Int.reduceMul, Int.reduceNeg, Int.reduceToNat, reduceCtorEq]
    refine ⟨_, rfl, by simp, ?_⟩
    have y6 : ∀ X, gFlush [.p (some (e, 0, 0))] ((g.set (h.nx + 3) X).kill (h.nx + 3)) = some (c' 22, ((g.set (h.nx + 3) X).kill (h.nx + 3)).set e (.rows 23 [eRow (upd c' 22 nilS)] false)) := fun X =>
      gFlush_at (c := c') (by rw [H.get_kill, if_neg (by omega), H.get_set, if_neg (by omega)]; exact d1')
    simp only [↓STEP, go_sem, ↓reduceIte, Nat.reduceEqDiff, Nat.reduceLeDiff, Nat.reduceLT, Nat.reduceAdd, Nat.reduceSub, Nat.reduceMul, Int.reduceLT, Int.reduceLE, Int.reduceEq, Int.reduceAdd, Int.reduceSub, Int.reduceMul, Int.reduceNeg, Int.reduceToNat, reduceCtorEq, d2, m5, z2, y6]
    refine ⟨by omega, fun i x q => ?_⟩
    obtain ⟨a1, a2⟩ := hKp i x q
    repeat rw [if_neg (by omega)]
    exact d5 i x q
  | 5, _, _ =>
    have y5 : gStop [.p (some (ts, 0, 0)), .i .i64 5] ((G.push (.rows 6 [cRow noC] false)).set G.nx (.rows 6 [cRow (fun i => decide (i = 5))] false)) = _ := gStop_at (b := 5) (by omega) (by omega) (by rw [H.get_set, if_neg (by omega), H.get_push, if_neg (by omega)]; exact gts)
    have cn : cRow noC = [.b false, .b false, .b false, .b false, .b false, .b false] := rfl
    have cb : cRow (fun i => decide (i = 5)) = [.b false, .b false, .b false, .b false, .b false, .b true] := rfl
    rw [cn, cb] at y5 hD
    rw [← gnx] at hD
    simp only [↓STEP, go_sem, ↓reduceIte, Nat.reduceEqDiff, Nat.reduceLeDiff, Nat.reduceLT, Nat.reduceAdd, Nat.reduceSub, Nat.reduceMul, Int.reduceLT, Int.reduceLE, Int.reduceEq, Int.reduceAdd, Int.reduceSub, Int.reduceMul, Int.reduceNeg, Int.reduceToNat, reduceCtorEq, g1, g2, m1, m2, z3, y3, hp, hqb, z4, y5]
    refine wpCall_yl (L := LS) ?_ ?_ ?_
    · simp only [↓STEP, go_sem, ↓reduceIte, Nat.reduceEqDiff, Nat.reduceLeDiff, Nat.reduceLT, Nat.reduceAdd, Nat.reduceSub, Nat.reduceMul, Int.reduceLT, Int.reduceLE, Int.reduceEq, Int.reduceAdd, Int.reduceSub, Int.reduceMul, Int.reduceNeg, Int.reduceToNat, reduceCtorEq, m3, g3, t4]
    · rw [qpar]; rfl
    rw [qa, qb, qn, qpar]
    simp only [↓STEP, go_sem, ↓reduceIte, Nat.reduceEqDiff, Nat.reduceLeDiff, Nat.reduceLT, Nat.reduceAdd, Nat.reduceSub, Nat.reduceMul, Int.reduceLT, Int.reduceLE, Int.reduceEq, Int.reduceAdd, Int.reduceSub, Int.reduceMul, Int.reduceNeg, Int.reduceToNat, reduceCtorEq]
    refine ⟨LS, by rw [if_neg t4, if_neg m3, if_neg m3]; exact g3, qs, ?_⟩
    simp only [↓STEP, go_sem, ↓reduceIte, Nat.reduceEqDiff, Nat.reduceLeDiff, Nat.reduceLT, Nat.reduceAdd, Nat.reduceSub, Nat.reduceMul, Int.reduceLT, Int.reduceLE, Int.reduceEq, Int.reduceAdd, Int.reduceSub, Int.reduceMul, Int.reduceNeg, Int.reduceToNat, reduceCtorEq, stParams, Tm.v_st, q2, m5, m4, m6, g0]
    refine Runs.mono hD ?_
    rintro v g ⟨rfl, d1, d2, d3, d4, d5⟩
    have d1' := d1
    unfold eRow at d1
    simp only [↓STEP, go_sem, ↓reduceIte, Nat.reduceEqDiff, Nat.reduceLeDiff, Nat.reduceLT, Nat.reduceAdd, Nat.reduceSub, Nat.reduceMul, Int.reduceLT, Int.reduceLE, Int.reduceEq, Int.reduceAdd, Int.reduceSub, Int.reduceMul, Int.reduceNeg, Int.reduceToNat, reduceCtorEq, d1, d2, c17', hwhy]
    refine ⟨_, d3, ?_⟩
    simp only [↓STEP, go_sem, ↓reduceIte, Nat.reduceEqDiff, Nat.reduceLeDiff, Nat.reduceLT, Nat.reduceAdd, Nat.reduceSub, Nat.reduceMul, Int.reduceLT, Int.reduceLE, Int.reduceEq, Int.reduceAdd, Int.reduceSub, Int.reduceMul, Int.reduceNeg, Int.reduceToNat, reduceCtorEq]
    refine ⟨_, rfl, by simp, ?_⟩
    have y6 : ∀ X, gFlush [.p (some (e, 0, 0))] ((g.set (h.nx + 3) X).kill (h.nx + 3)) = some (c' 22, ((g.set (h.nx + 3) X).kill (h.nx + 3)).set e (.rows 23 [eRow (upd c' 22 nilS)] false)) := fun X =>
      gFlush_at (c := c') (by rw [H.get_kill, if_neg (by omega), H.get_set, if_neg (by omega)]; exact d1')
    simp only [↓STEP, go_sem, ↓reduceIte, Nat.reduceEqDiff, Nat.reduceLeDiff, Nat.reduceLT, Nat.reduceAdd, Nat.reduceSub, Nat.reduceMul, Int.reduceLT, Int.reduceLE, Int.reduceEq, Int.reduceAdd, Int.reduceSub, Int.reduceMul, Int.reduceNeg, Int.reduceToNat, reduceCtorEq, d2, m5, z2, y6]
    refine ⟨by omega, fun i x q => ?_⟩
    obtain ⟨a1, a2⟩ := hKp i x q
    repeat rw [if_neg (by omega)]
    exact d5 i x q
  | b + 6, hb, _ => exact absurd hb (by omega)
end Am
