/- The law PairLong at its seat: all notes of scripts of ticks. -/
import Derived.Test.YtkhnielggkcbiaaGreatDoorPairL
import Derived.Test.YtkhnielggkcbiaaGreatDoorAmRfn
namespace Go.Proofs.YtkhnielggkcbiaaGreatDoor.PairK
open Go (IntKind)
open Am
set_option linter.all false
set_option maxRecDepth 100000
set_option maxHeartbeats 8000000
def sPlain : List V := [.i .i64 4096, .i .i64 10, .i .i64 65535, .i .i64 16384, .i .i64 1000, .i .i64 4096, .i .i64 10, .i .i64 65535, .i .i64 16384, .i .i64 1000, .i .i64 0, .i .i64 0, .i .i64 0, .i .i64 0, .i .i64 0, .i .i64 0, .i .i64 0, .i .i64 0, .i .i64 0, .i .i64 0, .i .i64 0]
theorem notes_walk {k : Nat} {h : H} {b r n : Nat} {ex : Bool} : wpF prY (c_pair_Notes k) [.agg sPlain, .sl (some (b, r)) n n ex] h (fun v g => v = .f (.fn k) [.p (some (h.nx, 0, 0)), .p (some (h.nx + 1, 0, 0))] ∧ g = (h.push (.rows 21 [sPlain] false)).push (.rows 1 [[.sl (some (b, r)) n n ex]] false)) := by
  unfold sPlain
  unfold wpF c_pair_Notes
  refine ⟨by simp, ?_⟩
  simp only [↓STEP, SB, looked, behind, lookOk, AAct.kind, AOp.kind, wpRes, evRes, resV, AOp.ev, bin, binI, binS, shiftI, eqV, un, bound, boundO, fill, fillRows, aggOf, keyEq, findKey, putKey, V.cells, V.flat, byteOf, bytesOf, rdOf, H.wr, H.kOf, splice, isYl, ↓reduceIte, Nat.reduceEqDiff, Nat.reduceLeDiff, Nat.reduceLT, Nat.reduceAdd, Nat.reduceSub, Nat.reduceMul, Int.reduceLT, Int.reduceLE, Int.reduceEq, Int.reduceAdd, Int.reduceSub, Int.reduceMul, Int.reduceNeg, Int.reduceToNat, reduceCtorEq]
theorem run_walk {h : H} {b r n : Nat} {ex : Bool} (hnx : 4096 ≤ h.nx) (hs : StepsAt h b r n) : wpF prY (c_pair_Run 8 6) [.agg sPlain, .sl (some (b, r)) n n ex] h (fun v g => v = .tup [nilS, .i .i64 (if n ≤ 4096 then 0 else 2)] ∧ Kept h g) := by
  have x1 := @wpCall_ext prY 8 _ rfl
  have y1 : ∀ g, gPNew [.agg sPlain] g = some (.tup [.p (some (g.nx + 2, 0, 0)), .i .i64 0], pushAll g (PB 0 g.nx)) := fun g => by
    unfold gPNew
    rw [if_pos (by rfl)]; rfl
  have hb : (h.push (.rows 21 [sPlain] false)).get h.nx = some (.rows 21 [sPlain] false) := by rw [H.get_push, if_pos rfl]
  have hk0 : ∀ j, j < h.nx → (h.push (.rows 21 [sPlain] false)).get j = h.get j := fun j hj => by rw [H.get_push, if_neg (by omega)]
  have hn0 : (h.push (.rows 21 [sPlain] false)).nx = h.nx + 1 := rfl
  have N := fun g => runs_of_wpF (pr := prY) (f := 6) (by kernel_rfl) (by kernel_rfl) (notes_walk (k := 10) (h := g) (b := b) (r := r) (n := n) (ex := ex))
  unfold sPlain at y1 hb hk0 hn0 N
  generalize hH : h.push _ = H1 at hb hk0 hn0
  have y1 := y1 H1
  have hk1 : ∀ j, j < H1.nx → (pushAll H1 (PB 0 H1.nx)).get j = H1.get j := fun j hj => pushPB_get hj
  have hn1 := pushPB_nx (h := H1)
  generalize pushAll H1 (PB 0 H1.nx) = H2 at *
  have hb2 := (hk1 h.nx (by omega)).trans hb
  unfold sPlain
  unfold wpF c_pair_Run
  refine ⟨by simp, ?_⟩
  by_cases hn : (n : Int) > 4096
  · simp only [↓STEP, SB, looked, behind, lookOk, AAct.kind, AOp.kind, wpRes, evRes, resV, AOp.ev, bin, binI, binS, shiftI, eqV, un, bound, boundO, fill, fillRows, aggOf, keyEq, findKey, putKey, V.cells, V.flat, byteOf, bytesOf, rdOf, H.wr, H.kOf, splice, isYl, ↓reduceIte, Nat.reduceEqDiff, Nat.reduceLeDiff, Nat.reduceLT, Nat.reduceAdd, Nat.reduceSub, Nat.reduceMul, Int.reduceLT, Int.reduceLE, Int.reduceEq, Int.reduceAdd, Int.reduceSub, Int.reduceMul, Int.reduceNeg, Int.reduceToNat, reduceCtorEq, hH, hb, x1, y1, hn, hn0, hn1, List.getElem?_cons_zero, List.getElem?_cons_succ]
    rw [if_neg (by omega)]
    exact ⟨rfl, by omega, fun j hj => (hk1 j (by omega)).trans (hk0 j hj)⟩
  · simp only [↓STEP, SB, looked, behind, lookOk, AAct.kind, AOp.kind, wpRes, evRes, resV, AOp.ev, bin, binI, binS, shiftI, eqV, un, bound, boundO, fill, fillRows, aggOf, keyEq, findKey, putKey, V.cells, V.flat, byteOf, bytesOf, rdOf, H.wr, H.kOf, splice, isYl, ↓reduceIte, Nat.reduceEqDiff, Nat.reduceLeDiff, Nat.reduceLT, Nat.reduceAdd, Nat.reduceSub, Nat.reduceMul, Int.reduceLT, Int.reduceLE, Int.reduceEq, Int.reduceAdd, Int.reduceSub, Int.reduceMul, Int.reduceNeg, Int.reduceToNat, reduceCtorEq, hH, hb, hb2, x1, y1, hn, hn0, hn1, List.getElem?_cons_zero, List.getElem?_cons_succ]
    refine Runs.mono (N _) ?_
    rintro v g ⟨rfl, rfl⟩
    have hl3 : (H2.push (.rows 1 [[.sl none 0 0 true]] false)).get H2.nx = some (.rows 1 [[.sl none 0 0 true]] false) := by rw [H.get_push, if_pos rfl]
    have hn3 : (H2.push (.rows 1 [[.sl none 0 0 true]] false)).nx = H2.nx + 1 := rfl
    have hk3 : ∀ j, j < H2.nx → (H2.push (.rows 1 [[.sl none 0 0 true]] false)).get j = H2.get j := fun j hj => by rw [H.get_push, if_neg (by omega)]
    generalize H2.push (.rows 1 [[.sl none 0 0 true]] false) = H3 at *
    have g1 : ((H3.push (.rows 21 [[.i .i64 4096, .i .i64 10, .i .i64 65535, .i .i64 16384, .i .i64 1000, .i .i64 4096, .i .i64 10, .i .i64 65535, .i .i64 16384, .i .i64 1000, .i .i64 0, .i .i64 0, .i .i64 0, .i .i64 0, .i .i64 0, .i .i64 0, .i .i64 0, .i .i64 0, .i .i64 0, .i .i64 0, .i .i64 0]] false)).push (.rows 1 [[.sl (some (b, r)) n n ex]] false)).get H3.nx = some (.rows 21 [[.i .i64 4096, .i .i64 10, .i .i64 65535, .i .i64 16384, .i .i64 1000, .i .i64 4096, .i .i64 10, .i .i64 65535, .i .i64 16384, .i .i64 1000, .i .i64 0, .i .i64 0, .i .i64 0, .i .i64 0, .i .i64 0, .i .i64 0, .i .i64 0, .i .i64 0, .i .i64 0, .i .i64 0, .i .i64 0]] false) := by
      rw [H.get_push, if_neg (fun q => by have q : H3.nx = H3.nx + 1 := q; omega), H.get_push, if_pos rfl]
    have g2 : ((H3.push (.rows 21 [[.i .i64 4096, .i .i64 10, .i .i64 65535, .i .i64 16384, .i .i64 1000, .i .i64 4096, .i .i64 10, .i .i64 65535, .i .i64 16384, .i .i64 1000, .i .i64 0, .i .i64 0, .i .i64 0, .i .i64 0, .i .i64 0, .i .i64 0, .i .i64 0, .i .i64 0, .i .i64 0, .i .i64 0, .i .i64 0]] false)).push (.rows 1 [[.sl (some (b, r)) n n ex]] false)).get (H3.nx + 1) = some (.rows 1 [[.sl (some (b, r)) n n ex]] false) := by
      rw [H.get_push]; exact if_pos rfl
    have gn : ((H3.push (.rows 21 [[.i .i64 4096, .i .i64 10, .i .i64 65535, .i .i64 16384, .i .i64 1000, .i .i64 4096, .i .i64 10, .i .i64 65535, .i .i64 16384, .i .i64 1000, .i .i64 0, .i .i64 0, .i .i64 0, .i .i64 0, .i .i64 0, .i .i64 0, .i .i64 0, .i .i64 0, .i .i64 0, .i .i64 0, .i .i64 0]] false)).push (.rows 1 [[.sl (some (b, r)) n n ex]] false)).nx = H3.nx + 2 := rfl
    have gk : ∀ j, j < H3.nx → ((H3.push (.rows 21 [[.i .i64 4096, .i .i64 10, .i .i64 65535, .i .i64 16384, .i .i64 1000, .i .i64 4096, .i .i64 10, .i .i64 65535, .i .i64 16384, .i .i64 1000, .i .i64 0, .i .i64 0, .i .i64 0, .i .i64 0, .i .i64 0, .i .i64 0, .i .i64 0, .i .i64 0, .i .i64 0, .i .i64 0, .i .i64 0]] false)).push (.rows 1 [[.sl (some (b, r)) n n ex]] false)).get j = H3.get j := fun j hj => by
      rw [H.get_push, if_neg (fun q => by have q : j = H3.nx + 1 := q; omega), H.get_push, if_neg (by omega)]
    generalize (H3.push _).push _ = G at *
    refine wpA_rfn rfl (k := 10) (caps := [.p (some (H3.nx, 0, 0)), .p (some (H3.nx + 1, 0, 0))]) ?_ ?_
    · simp only [↓STEP, SB, looked, behind, lookOk, AAct.kind, AOp.kind, wpRes, evRes, resV, AOp.ev, bin, binI, binS, shiftI, eqV, un, bound, boundO, fill, fillRows, aggOf, keyEq, findKey, putKey, V.cells, V.flat, byteOf, bytesOf, rdOf, H.wr, H.kOf, splice, isYl, ↓reduceIte, Nat.reduceEqDiff, Nat.reduceLeDiff, Nat.reduceLT, Nat.reduceAdd, Nat.reduceSub, Nat.reduceMul, Int.reduceLT, Int.reduceLE, Int.reduceEq, Int.reduceAdd, Int.reduceSub, Int.reduceMul, Int.reduceNeg, Int.reduceToNat, reduceCtorEq]
    generalize hLS : LoopSt.mk _ _ _ _ _ _ _ = LS
    have qs : LS.st = .ready := (congrArg LoopSt.st hLS).symm
    have qp : LS.pend = .normal := (congrArg LoopSt.pend hLS).symm
    have pn : (G.push (.loop LS)).nx = G.nx + 1 := rfl
    have pk : ∀ j, j < G.nx → (G.push (.loop LS)).get j = G.get j := fun j hj => by rw [H.get_push, if_neg (by omega)]
    have pl : (G.push (.loop LS)).get G.nx = some (.loop LS) := by rw [H.get_push, if_pos rfl]
    have hall : ∀ j, j < h.nx → G.get j = h.get j := fun j hj => (gk j (by omega)).trans ((hk3 j (by omega)).trans ((hk1 j (by omega)).trans (hk0 j hj)))
    obtain ⟨lb, rs, ro, gb, hrs⟩ := hs
    have S : StepsAt (G.push (.loop LS)) b r n := ⟨by omega, rs, ro, by rw [pk b (by omega), hall b lb]; exact gb, hrs⟩
    refine Runs.mono (notes_runs (l := G.nx) (b1 := H3.nx) (b2 := H3.nx + 1) ((pk _ (by omega)).trans g1) ((pk _ (by omega)).trans g2) (by omega) (by omega) (by omega) S) ?_
    rintro v g ⟨kn, kg⟩
    have kL := (kg G.nx (by omega)).trans pl
    refine ⟨LS, kL, by rw [qs]; simp, ?_⟩
    have kl : (g.kill G.nx).get H2.nx = some (.rows 1 [[.sl none 0 0 true]] false) := by rw [H.get_kill, if_neg (by omega), kg _ (by omega), pk _ (by omega), gk _ (by omega)]; exact hl3
    have kn2 : (g.kill G.nx).nx = g.nx := rfl
    have kk : ∀ j, j < h.nx → (g.kill G.nx).get j = h.get j := fun j hj => by rw [H.get_kill, if_neg (by omega), kg _ (by omega), pk _ (by omega)]; exact hall j hj
    generalize g.kill G.nx = g9 at *
    rw [qp]
    rw [show H2.nx = h.nx + 38 from by omega] at kl
    simp only [↓STEP, SB, looked, behind, lookOk, AAct.kind, AOp.kind, wpRes, evRes, resV, AOp.ev, bin, binI, binS, shiftI, eqV, un, bound, boundO, fill, fillRows, aggOf, keyEq, findKey, putKey, V.cells, V.flat, byteOf, bytesOf, rdOf, H.wr, H.kOf, splice, isYl, ↓reduceIte, Nat.reduceEqDiff, Nat.reduceLeDiff, Nat.reduceLT, Nat.reduceAdd, Nat.reduceSub, Nat.reduceMul, Int.reduceLT, Int.reduceLE, Int.reduceEq, Int.reduceAdd, Int.reduceSub, Int.reduceMul, Int.reduceNeg, Int.reduceToNat, reduceCtorEq, kl]
    rw [if_pos (by omega)]
    exact ⟨rfl, by omega, kk⟩
theorem bad_walk {h : H} {s : V} : wpF prY (c_pair_Run 8 6) [vBad, s] h (fun v g => v = .tup [nilS, .i .i64 1] ∧ Kept h g) := by
  have x1 := @wpCall_ext prY 8 _ rfl
  have y1 : ∀ g, gPNew [vBad] g = some (.tup [.p none, .i .i64 1], g) := fun g => by
    unfold gPNew
    rw [if_neg (by unfold vBad vPlain; simp), if_pos rfl]
  unfold vBad at y1 ⊢
  unfold wpF c_pair_Run
  refine ⟨by simp, ?_⟩
  simp only [↓STEP, SB, looked, behind, lookOk, AAct.kind, AOp.kind, wpRes, evRes, resV, AOp.ev, bin, binI, binS, shiftI, eqV, un, bound, boundO, fill, fillRows, aggOf, keyEq, findKey, putKey, V.cells, V.flat, byteOf, bytesOf, rdOf, H.wr, H.kOf, splice, isYl, ↓reduceIte, Nat.reduceEqDiff, Nat.reduceLeDiff, Nat.reduceLT, Nat.reduceAdd, Nat.reduceSub, Nat.reduceMul, Int.reduceLT, Int.reduceLE, Int.reduceEq, Int.reduceAdd, Int.reduceSub, Int.reduceMul, Int.reduceNeg, Int.reduceToNat, reduceCtorEq, x1, y1, List.getElem?_cons_zero, List.getElem?_cons_succ]
  exact ⟨rfl, Kept.refl.push⟩
def zS : List V := [.i .i64 0, .i .i64 0, .i .i64 0, .i .i64 0, .sl none 0 0 true, .sl none 0 0 true, .b false, .i .i64 0, .i .i64 0, .i .i64 0, .i .i64 0, .i .i64 0]
/-- The steps as they are laid. -/
def layS (K i : Nat) : List (List V) := List.replicate i tickS ++ List.replicate (K - i) zS
theorem layS_get {K i : Nat} (h : i < K) : (layS K i)[i]? = some zS := by
  unfold layS
  rw [List.getElem?_append_right (by rw [List.length_replicate]; exact Nat.le_refl _), List.length_replicate, Nat.sub_self, List.getElem?_replicate, if_pos (by omega)]
theorem layS_set {K i : Nat} (h : i < K) : (layS K i).set i tickS = layS K (i + 1) := by
  unfold layS
  rw [List.set_append_right _ _ (by rw [List.length_replicate]; exact Nat.le_refl _), List.length_replicate, Nat.sub_self, show K - i = (K - (i + 1)) + 1 from by omega, List.replicate_succ, List.set_cons_zero, List.replicate_succ', List.append_assoc]; rfl
theorem layS_all {K i : Nat} (h : i < K) : (layS K K)[i]? = some tickS := by
  unfold layS
  rw [Nat.sub_self, List.replicate_zero, List.append_nil, List.getElem?_replicate, if_pos h]
/-- What holds as the steps are laid. -/
def LI (K m : Nat) (t : Tm) (h : H) : Prop :=
  ∃ i, i + m = K ∧ t.v 2 = .i .i64 (i : Nat) ∧ t.v 1 = .sl (some (4096, 0)) K K true ∧ h.nx = 4097 ∧ h.get 4096 = some (.rows 12 (layS K i) false)
theorem long_walk : Runs prY (.fn 3) [] ⟨4096, .e⟩ (fun v _ => v = .b true) := by
  have x0 := @wpCall_ext prY 7 _ rfl
  have y0 : ∀ h, xConst (.b true) [] h = some (.b true, h) := fun h => rfl
  have x1 := @wpCall_ext prY 5 _ rfl
  have y1 : ∀ h, xConst vPlain [] h = some (.agg sPlain, h) := fun h => rfl
  refine runs_of_wpF (pr := prY) (af := Am.c_isthmuslaw21_PairLong 5 4 6 7) (by kernel_rfl) (by kernel_rfl) ?_
  obtain ⟨K, hK, hK4⟩ : ∃ K : Nat, (4097 : Int) = (K : Int) ∧ K = 4097 := ⟨4097, rfl, rfl⟩
  have k0 : (0 : Int) ≤ (K : Int) := by omega
  have k1 : (K : Int) ≤ (K : Int) := by omega
  have k2 : 128 * K ≤ 140737488355328 := by omega
  have e0 : ∀ b : H, b = ⟨4096, .e⟩ → b.nx = 4096 := fun b h => by rw [h]
  generalize hE : (⟨4096, .e⟩ : H) = E
  have en := e0 E hE.symm
  clear hE e0
  unfold wpF c_isthmuslaw21_PairLong
  refine ⟨by simp, ?_⟩
  rw [hK]
  simp only [↓STEP, SB, looked, behind, lookOk, AAct.kind, AOp.kind, wpRes, evRes, resV, AOp.ev, bin, binI, binS, shiftI, eqV, un, bound, boundO, fill, fillRows, aggOf, keyEq, findKey, putKey, V.cells, V.flat, byteOf, bytesOf, rdOf, H.wr, H.kOf, splice, isYl, ↓reduceIte, Nat.reduceEqDiff, Nat.reduceLeDiff, Nat.reduceLT, Nat.reduceAdd, Nat.reduceSub, Nat.reduceMul, Int.reduceLT, Int.reduceLE, Int.reduceEq, Int.reduceAdd, Int.reduceSub, Int.reduceMul, Int.reduceNeg, Int.reduceToNat, reduceCtorEq, k0, k1, k2, en]
  refine wpA_loop_inv (LI K) ?_ (m := K) ?_
  · rintro m t h ⟨i, him, t2, t1, hn, hg⟩
    by_cases hi : i < K
    · have hi1 : (i : Int) < (K : Int) := by omega
      have hi0 : (0 : Int) ≤ (i : Int) := by omega
      have q1 := layS_get hi
      have q2 := layS_set hi
      have w1 : IntKind.wrap .i64 ((i : Int) + 1) = i + 1 := wrap_i64 (by omega) (by omega)
      have e1 : ((i : Int) + 1) = ((i + 1 : Nat) : Int) := by omega
      unfold zS at q1
      unfold tickS at q2
      simp only [↓STEP, SB, looked, behind, lookOk, AAct.kind, AOp.kind, wpRes, evRes, resV, AOp.ev, bin, binI, binS, shiftI, eqV, un, bound, boundO, fill, fillRows, aggOf, keyEq, findKey, putKey, V.cells, V.flat, byteOf, bytesOf, rdOf, H.wr, H.kOf, splice, isYl, ↓reduceIte, Nat.reduceEqDiff, Nat.reduceLeDiff, Nat.reduceLT, Nat.reduceAdd, Nat.reduceSub, Nat.reduceMul, Int.reduceLT, Int.reduceLE, Int.reduceEq, Int.reduceAdd, Int.reduceSub, Int.reduceMul, Int.reduceNeg, Int.reduceToNat, reduceCtorEq, t2, t1, hi1, hi0, hg, q1, q2, w1, hn]
      refine ⟨m - 1, by omega, i + 1, by omega, ?_, ?_, ?_, ?_⟩
      · simp only [↓STEP, SB, looked, behind, lookOk, AAct.kind, AOp.kind, wpRes, evRes, resV, AOp.ev, bin, binI, binS, shiftI, eqV, un, bound, boundO, fill, fillRows, aggOf, keyEq, findKey, putKey, V.cells, V.flat, byteOf, bytesOf, rdOf, H.wr, H.kOf, splice, isYl, ↓reduceIte, Nat.reduceEqDiff, Nat.reduceLeDiff, Nat.reduceLT, Nat.reduceAdd, Nat.reduceSub, Nat.reduceMul, Int.reduceLT, Int.reduceLE, Int.reduceEq, Int.reduceAdd, Int.reduceSub, Int.reduceMul, Int.reduceNeg, Int.reduceToNat, reduceCtorEq, e1]
      · simp only [↓STEP, SB, looked, behind, lookOk, AAct.kind, AOp.kind, wpRes, evRes, resV, AOp.ev, bin, binI, binS, shiftI, eqV, un, bound, boundO, fill, fillRows, aggOf, keyEq, findKey, putKey, V.cells, V.flat, byteOf, bytesOf, rdOf, H.wr, H.kOf, splice, isYl, ↓reduceIte, Nat.reduceEqDiff, Nat.reduceLeDiff, Nat.reduceLT, Nat.reduceAdd, Nat.reduceSub, Nat.reduceMul, Int.reduceLT, Int.reduceLE, Int.reduceEq, Int.reduceAdd, Int.reduceSub, Int.reduceMul, Int.reduceNeg, Int.reduceToNat, reduceCtorEq, t1]
      · exact hn
      · rw [H.get_set, if_pos rfl]
    · obtain rfl : m = 0 := by omega
      obtain rfl : i = K := by omega
      have hi1 : ¬ (i : Int) < (i : Int) := by omega
      simp only [↓STEP, SB, looked, behind, lookOk, AAct.kind, AOp.kind, wpRes, evRes, resV, AOp.ev, bin, binI, binS, shiftI, eqV, un, bound, boundO, fill, fillRows, aggOf, keyEq, findKey, putKey, V.cells, V.flat, byteOf, bytesOf, rdOf, H.wr, H.kOf, splice, isYl, ↓reduceIte, Nat.reduceEqDiff, Nat.reduceLeDiff, Nat.reduceLT, Nat.reduceAdd, Nat.reduceSub, Nat.reduceMul, Int.reduceLT, Int.reduceLE, Int.reduceEq, Int.reduceAdd, Int.reduceSub, Int.reduceMul, Int.reduceNeg, Int.reduceToNat, reduceCtorEq, t2, t1, hi1, x1, y1]
      have one : (1 : Int) ≤ (i : Int) := by omega
      have R1 : ∀ g : H, g.nx ≥ 4097 → g.get 4096 = some (.rows 12 (layS i i) false) → Runs prY (.fn 4) [.agg sPlain, .sl (some (4096, 0)) i i true] g (fun v g' => v = .tup [nilS, .i .i64 2] ∧ Kept g g') := fun g hn hg => by
        have R := runs_of_wpF (pr := prY) (f := 4) (by kernel_rfl) (by kernel_rfl) (run_walk (h := g) (b := 4096) (r := 0) (n := i) (ex := true) (by omega) ⟨by omega, _, _, hg, fun j hj => by rw [Nat.zero_add]; exact layS_all hj⟩)
        rw [if_neg (by omega)] at R
        exact R
      have R2 : ∀ g : H, g.nx ≥ 4097 → g.get 4096 = some (.rows 12 (layS i i) false) → Runs prY (.fn 4) [.agg sPlain, .sl (some (4096, 1)) (i - 1) (i - 1) true] g (fun v g' => v = .tup [nilS, .i .i64 0] ∧ Kept g g') := fun g hn hg => by
        have R := runs_of_wpF (pr := prY) (f := 4) (by kernel_rfl) (by kernel_rfl) (run_walk (h := g) (b := 4096) (r := 1) (n := i - 1) (ex := true) (by omega) ⟨by omega, _, _, hg, fun j hj => layS_all (by omega)⟩)
        rw [if_pos (by omega)] at R
        exact R
      refine Runs.mono (R1 h (by omega) hg) ?_
      rintro v1 g1 ⟨rfl, kn1, kg1⟩
      have hg1 := (kg1 4096 (by omega)).trans hg
      simp only [↓STEP, SB, looked, behind, lookOk, AAct.kind, AOp.kind, wpRes, evRes, resV, AOp.ev, bin, binI, binS, shiftI, eqV, un, bound, boundO, fill, fillRows, aggOf, keyEq, findKey, putKey, V.cells, V.flat, byteOf, bytesOf, rdOf, H.wr, H.kOf, splice, isYl, ↓reduceIte, Nat.reduceEqDiff, Nat.reduceLeDiff, Nat.reduceLT, Nat.reduceAdd, Nat.reduceSub, Nat.reduceMul, Int.reduceLT, Int.reduceLE, Int.reduceEq, Int.reduceAdd, Int.reduceSub, Int.reduceMul, Int.reduceNeg, Int.reduceToNat, reduceCtorEq, one, hg1, x1, y1, List.getElem?_cons_zero, List.getElem?_cons_succ]
      refine Runs.mono (R2 g1 (by omega) hg1) ?_
      rintro v2 g2 ⟨rfl, kn2, kg2⟩
      have hg2 := (kg2 4096 (by omega)).trans hg1
      simp only [↓STEP, SB, looked, behind, lookOk, AAct.kind, AOp.kind, wpRes, evRes, resV, AOp.ev, bin, binI, binS, shiftI, eqV, un, bound, boundO, fill, fillRows, aggOf, keyEq, findKey, putKey, V.cells, V.flat, byteOf, bytesOf, rdOf, H.wr, H.kOf, splice, isYl, ↓reduceIte, Nat.reduceEqDiff, Nat.reduceLeDiff, Nat.reduceLT, Nat.reduceAdd, Nat.reduceSub, Nat.reduceMul, Int.reduceLT, Int.reduceLE, Int.reduceEq, Int.reduceAdd, Int.reduceSub, Int.reduceMul, Int.reduceNeg, Int.reduceToNat, reduceCtorEq, hg2, x1, y1, push_set, List.getElem?_cons_zero, List.getElem?_cons_succ]
      refine ⟨Nat.ble_eq_true_of_le kn2, ?_⟩
      have b3 : (g2.push (.rows 1 [[.i .i64 0]] false)).get g2.nx = some (.rows 1 [[.i .i64 0]] false) := by rw [H.get_push, if_pos rfl]
      have n3 : (g2.push (.rows 1 [[.i .i64 0]] false)).nx = g2.nx + 1 := rfl
      have k3 : ∀ j, j < g2.nx → (g2.push (.rows 1 [[.i .i64 0]] false)).get j = g2.get j := fun j hj => by rw [H.get_push, if_neg (by omega)]
      generalize g2.push (.rows 1 [[.i .i64 0]] false) = g3 at *
      refine Runs.mono (runs_of_wpF (pr := prY) (f := 6) (by kernel_rfl) (by kernel_rfl) (notes_walk (k := 10) (h := g3) (b := 4096) (r := 0) (n := i) (ex := true))) ?_
      rintro v4 g4 ⟨rfl, rfl⟩
      simp only [↓STEP, SB, looked, behind, lookOk, AAct.kind, AOp.kind, wpRes, evRes, resV, AOp.ev, bin, binI, binS, shiftI, eqV, un, bound, boundO, fill, fillRows, aggOf, keyEq, findKey, putKey, V.cells, V.flat, byteOf, bytesOf, rdOf, H.wr, H.kOf, splice, isYl, ↓reduceIte, Nat.reduceEqDiff, Nat.reduceLeDiff, Nat.reduceLT, Nat.reduceAdd, Nat.reduceSub, Nat.reduceMul, Int.reduceLT, Int.reduceLE, Int.reduceEq, Int.reduceAdd, Int.reduceSub, Int.reduceMul, Int.reduceNeg, Int.reduceToNat, reduceCtorEq]
      have h4 := (k3 4096 (by omega)).trans hg2
      have c1 : ((g3.push (.rows 21 [sPlain] false)).push (.rows 1 [[.sl (some (4096, 0)) i i true]] false)).get g3.nx = some (.rows 21 [sPlain] false) := by
        rw [H.get_push, if_neg (fun q => by have q : g3.nx = g3.nx + 1 := q; omega), H.get_push, if_pos rfl]
      have c2 : ((g3.push (.rows 21 [sPlain] false)).push (.rows 1 [[.sl (some (4096, 0)) i i true]] false)).get (g3.nx + 1) = some (.rows 1 [[.sl (some (4096, 0)) i i true]] false) := by
        rw [H.get_push]; exact if_pos rfl
      have n4 : ((g3.push (.rows 21 [sPlain] false)).push (.rows 1 [[.sl (some (4096, 0)) i i true]] false)).nx = g3.nx + 2 := rfl
      have k4 : ∀ j, j < g3.nx → ((g3.push (.rows 21 [sPlain] false)).push (.rows 1 [[.sl (some (4096, 0)) i i true]] false)).get j = g3.get j := fun j hj => by
        rw [H.get_push, if_neg (fun q => by have q : j = g3.nx + 1 := q; omega), H.get_push, if_neg (by omega)]
      generalize (g3.push _).push _ = g4 at *
      refine wpA_rfn rfl (k := 10) (caps := [.p (some (g3.nx, 0, 0)), .p (some (g3.nx + 1, 0, 0))]) ?_ ?_
      · simp only [↓STEP, SB, looked, behind, lookOk, AAct.kind, AOp.kind, wpRes, evRes, resV, AOp.ev, bin, binI, binS, shiftI, eqV, un, bound, boundO, fill, fillRows, aggOf, keyEq, findKey, putKey, V.cells, V.flat, byteOf, bytesOf, rdOf, H.wr, H.kOf, splice, isYl, ↓reduceIte, Nat.reduceEqDiff, Nat.reduceLeDiff, Nat.reduceLT, Nat.reduceAdd, Nat.reduceSub, Nat.reduceMul, Int.reduceLT, Int.reduceLE, Int.reduceEq, Int.reduceAdd, Int.reduceSub, Int.reduceMul, Int.reduceNeg, Int.reduceToNat, reduceCtorEq]
      generalize hLS : LoopSt.mk _ _ _ _ _ _ _ = LS
      have qs : LS.st = .ready := (congrArg LoopSt.st hLS).symm
      have qp : LS.pend = .normal := (congrArg LoopSt.pend hLS).symm
      have pn : (g4.push (.loop LS)).nx = g4.nx + 1 := rfl
      have pk : ∀ j, j < g4.nx → (g4.push (.loop LS)).get j = g4.get j := fun j hj => by rw [H.get_push, if_neg (by omega)]
      have pl : (g4.push (.loop LS)).get g4.nx = some (.loop LS) := by rw [H.get_push, if_pos rfl]
      unfold sPlain at c1
      refine Runs.mono (notes_runs (l := g4.nx) (b1 := g3.nx) (b2 := g3.nx + 1) ((pk _ (by omega)).trans c1) ((pk _ (by omega)).trans c2) (by omega) (by omega) (by omega) ⟨by omega, layS i i, false, (pk _ (by omega)).trans ((k4 _ (by omega)).trans h4), fun j hj => by rw [Nat.zero_add]; exact layS_all hj⟩) ?_
      rintro v g ⟨kn, kg⟩
      have kL := (kg g4.nx (by omega)).trans pl
      refine ⟨LS, kL, by rw [qs]; simp, ?_⟩
      have kl : (g.kill g4.nx).get g2.nx = some (.rows 1 [[.i .i64 0]] false) := by rw [H.get_kill, if_neg (by omega), kg _ (by omega), pk _ (by omega), k4 _ (by omega)]; exact b3
      have kn5 : (g.kill g4.nx).nx = g.nx := rfl
      have k5 : (g.kill g4.nx).get 4096 = some (.rows 12 (layS i i) false) := by rw [H.get_kill, if_neg (by omega), kg _ (by omega), pk _ (by omega), k4 _ (by omega)]; exact h4
      generalize g.kill g4.nx = g5 at *
      rw [qp]
      have y1' := y1
      unfold sPlain at y1'
      have m1 : ¬ g2.nx = g5.nx := by omega
      have m2 : ¬ g5.nx = g2.nx := by omega
      simp only [↓STEP, SB, looked, behind, lookOk, AAct.kind, AOp.kind, wpRes, evRes, resV, AOp.ev, bin, binI, binS, shiftI, eqV, un, bound, boundO, fill, fillRows, aggOf, keyEq, findKey, putKey, V.cells, V.flat, byteOf, bytesOf, rdOf, H.wr, H.kOf, splice, isYl, ↓reduceIte, Nat.reduceEqDiff, Nat.reduceLeDiff, Nat.reduceLT, Nat.reduceAdd, Nat.reduceSub, Nat.reduceMul, Int.reduceLT, Int.reduceLE, Int.reduceEq, Int.reduceAdd, Int.reduceSub, Int.reduceMul, Int.reduceNeg, Int.reduceToNat, reduceCtorEq, x1, y1', kl, push_set, m1, m2, sPlain]
      have kb : ∀ Z, (g5.push Z).get g2.nx = some (.rows 1 [[.i .i64 0]] false) := fun Z => by rw [H.get_push, if_neg (by omega)]; exact kl
      refine Runs.mono (runs_of_wpF (pr := prY) (f := 4) (by kernel_rfl) (by kernel_rfl) (bad_walk (s := t.v 1))) ?_
      rintro v6 g6 ⟨rfl, kn6, kg6⟩
      have n6 : g5.nx + 1 ≤ g6.nx := kn6
      have k6 := (kg6 g2.nx (by show g2.nx < g5.nx + 1; omega)).trans (kb _)
      simp only [↓STEP, SB, looked, behind, lookOk, AAct.kind, AOp.kind, wpRes, evRes, resV, AOp.ev, bin, binI, binS, shiftI, eqV, un, bound, boundO, fill, fillRows, aggOf, keyEq, findKey, putKey, V.cells, V.flat, byteOf, bytesOf, rdOf, H.wr, H.kOf, splice, isYl, ↓reduceIte, Nat.reduceEqDiff, Nat.reduceLeDiff, Nat.reduceLT, Nat.reduceAdd, Nat.reduceSub, Nat.reduceMul, Int.reduceLT, Int.reduceLE, Int.reduceEq, Int.reduceAdd, Int.reduceSub, Int.reduceMul, Int.reduceNeg, Int.reduceToNat, reduceCtorEq, k6, x0, y0, t2, t1, List.getElem?_cons_zero, List.getElem?_cons_succ]
  · refine ⟨0, by omega, ?_, ?_, ?_, ?_⟩
    · simp only [↓STEP, SB, looked, behind, lookOk, AAct.kind, AOp.kind, wpRes, evRes, resV, AOp.ev, bin, binI, binS, shiftI, eqV, un, bound, boundO, fill, fillRows, aggOf, keyEq, findKey, putKey, V.cells, V.flat, byteOf, bytesOf, rdOf, H.wr, H.kOf, splice, isYl, ↓reduceIte, Nat.reduceEqDiff, Nat.reduceLeDiff, Nat.reduceLT, Nat.reduceAdd, Nat.reduceSub, Nat.reduceMul, Int.reduceLT, Int.reduceLE, Int.reduceEq, Int.reduceAdd, Int.reduceSub, Int.reduceMul, Int.reduceNeg, Int.reduceToNat, reduceCtorEq] <;> rfl
    · simp only [↓STEP, SB, looked, behind, lookOk, AAct.kind, AOp.kind, wpRes, evRes, resV, AOp.ev, bin, binI, binS, shiftI, eqV, un, bound, boundO, fill, fillRows, aggOf, keyEq, findKey, putKey, V.cells, V.flat, byteOf, bytesOf, rdOf, H.wr, H.kOf, splice, isYl, ↓reduceIte, Nat.reduceEqDiff, Nat.reduceLeDiff, Nat.reduceLT, Nat.reduceAdd, Nat.reduceSub, Nat.reduceMul, Int.reduceLT, Int.reduceLE, Int.reduceEq, Int.reduceAdd, Int.reduceSub, Int.reduceMul, Int.reduceNeg, Int.reduceToNat, reduceCtorEq] <;> rfl
    · show E.nx + 1 = 4097; omega
    · rw [H.get_push, en, if_pos rfl]; rfl
theorem walk (w : Go.World) : Go.Calls Tryz.prog 3 #[] w fun E w' => E = .returned (.bool true) ∧ Go.RowKit.Below w.heap.size w w' := by
  obtain ⟨n, v, h', hv, rfl⟩ := long_walk
  exact closed_callsOk okY (by kernel_rfl) (n := n) (by rw [hv]; rfl) w
end Go.Proofs.YtkhnielggkcbiaaGreatDoor.PairK
