/- The law PairLong at its seat: the steps are gone over. -/
import Derived.Test.YtkhnielggkcbiaaGreatDoorPairD
import Derived.Test.YtkhnielggkcbiaaGreatDoorEnd10
namespace Go.Proofs.YtkhnielggkcbiaaGreatDoor.PairK
open Go (IntKind)
open Am
set_option linter.all false
set_option maxRecDepth 100000
set_option maxHeartbeats 8000000
/-- The steps: so many ticks, from a place of a block on. -/
def StepsAt (h : H) (b r n : Nat) : Prop := b < h.nx ∧ ∃ rs ro, h.get b = some (.rows 12 rs ro) ∧ ∀ i, i < n → rs[r + i]? = some tickS
theorem pushPB_get {h : H} {b : Nat} (hb : b < h.nx) : (pushAll h (PB 0 h.nx)).get b = h.get b := by rw [pushAll_get, if_neg (by omega)]
theorem pushPB_nx {h : H} : (pushAll h (PB 0 h.nx)).nx = h.nx + 37 := by rw [pushAll_nx]; rfl
theorem pushPB_obj {h : H} : ObjAt (pushAll h (PB 0 h.nx)) h.nx (PB 0 h.nx) :=
  ⟨by rw [pushPB_nx, PB_len]; exact Nat.le_refl _, fun i x hx => by
    have hi := (List.getElem?_eq_some_iff.1 hx).1
    rw [pushAll_get, if_pos (by omega), Nat.add_sub_cancel_left]; exact hx⟩
/-- What holds as the steps are gone over. -/
def NI (h0 : H) (ex : Bool) (off b r n : Nat) (m : Nat) (t : Tm) (g : H) : Prop :=
  ∃ i, i + m = n ∧ t.v 26 = .i .i64 (i : Nat) ∧ t.v 25 = .i .i64 (n : Nat) ∧ t.v 24 = .sl (some (b, r)) n n ex ∧ t.v 4 = .p (some (off + 2, 0, 0)) ∧ ObjAt g off (PB i off) ∧ h0.nx ≤ off ∧ ∀ j, j < h0.nx → g.get j = h0.get j
theorem notes_runs {h : H} {l b1 b2 b r n : Nat} {ex : Bool} (hb1 : h.get b1 = some (.rows 21 [[.i .i64 4096, .i .i64 10, .i .i64 65535, .i .i64 16384, .i .i64 1000, .i .i64 4096, .i .i64 10, .i .i64 65535, .i .i64 16384, .i .i64 1000, .i .i64 0, .i .i64 0, .i .i64 0, .i .i64 0, .i .i64 0, .i .i64 0, .i .i64 0, .i .i64 0, .i .i64 0, .i .i64 0, .i .i64 0]] false)) (hb2 : h.get b2 = some (.rows 1 [[.sl (some (b, r)) n n ex]] false)) (l1 : b1 < h.nx) (l2 : b2 < h.nx) (hnx : 4096 ≤ h.nx) (hs : StepsAt h b r n) :
    Runs prY (.fn 10) [.f (.yl l) [], .p (some (b1, 0, 0)), .p (some (b2, 0, 0))] h (fun v g => Kept h g) := by
  have x1 := @wpCall_ext prY 8 _ rfl
  have y1 : gPNew [.agg [.i .i64 4096, .i .i64 10, .i .i64 65535, .i .i64 16384, .i .i64 1000, .i .i64 4096, .i .i64 10, .i .i64 65535, .i .i64 16384, .i .i64 1000, .i .i64 0, .i .i64 0, .i .i64 0, .i .i64 0, .i .i64 0, .i .i64 0, .i .i64 0, .i .i64 0, .i .i64 0, .i .i64 0, .i .i64 0]] h = some (.tup [.p (some (h.nx + 2, 0, 0)), .i .i64 0], pushAll h (PB 0 h.nx)) := by
    unfold gPNew
    rw [if_pos (by rfl)]; rfl
  have x2 := @wpCall_ext prY 11 _ rfl
  obtain ⟨lb, rs, ro, gb, hrs⟩ := hs
  have hb2' := (pushPB_get l2).trans hb2
  have hnx2 := pushPB_nx (h := h)
  have hobj := pushPB_obj (h := h)
  have hk0 : ∀ j, j < h.nx → (pushAll h (PB 0 h.nx)).get j = h.get j := fun j hj => pushPB_get hj
  generalize pushAll h (PB 0 h.nx) = G at *
  refine runs_of_wpF (pr := prY) (af := Am.c_pair_Notes_1 8 11) (by kernel_rfl) (by kernel_rfl) ?_
  unfold wpF c_pair_Notes_1
  refine ⟨by simp, ?_⟩
  by_cases hn : (n : Int) > 4096
  · simp only [↓STEP, SB, looked, behind, lookOk, AAct.kind, AOp.kind, wpRes, evRes, resV, AOp.ev, bin, binI, binS, shiftI, eqV, un, bound, boundO, fill, fillRows, aggOf, keyEq, findKey, putKey, V.cells, V.flat, byteOf, bytesOf, rdOf, H.wr, H.kOf, splice, isYl, ↓reduceIte, Nat.reduceEqDiff, Nat.reduceLeDiff, Nat.reduceLT, Nat.reduceAdd, Nat.reduceSub, Nat.reduceMul, Int.reduceLT, Int.reduceLE, Int.reduceEq, Int.reduceAdd, Int.reduceSub, Int.reduceMul, Int.reduceNeg, Int.reduceToNat, reduceCtorEq, hb1, x1, y1, hb2', hnx2, hn, List.getElem?_cons_zero, List.getElem?_cons_succ]
    exact ⟨by omega, fun j hj => hk0 j hj⟩
  · simp only [↓STEP, SB, looked, behind, lookOk, AAct.kind, AOp.kind, wpRes, evRes, resV, AOp.ev, bin, binI, binS, shiftI, eqV, un, bound, boundO, fill, fillRows, aggOf, keyEq, findKey, putKey, V.cells, V.flat, byteOf, bytesOf, rdOf, H.wr, H.kOf, splice, isYl, ↓reduceIte, Nat.reduceEqDiff, Nat.reduceLeDiff, Nat.reduceLT, Nat.reduceAdd, Nat.reduceSub, Nat.reduceMul, Int.reduceLT, Int.reduceLE, Int.reduceEq, Int.reduceAdd, Int.reduceSub, Int.reduceMul, Int.reduceNeg, Int.reduceToNat, reduceCtorEq, hb1, x1, y1, hb2', hnx2, hn, List.getElem?_cons_zero, List.getElem?_cons_succ]
    clear y1 hb2' hb1
    refine wpA_loop_inv (NI h ex h.nx b r n) ?_ (m := n) ?_
    · rintro m t g ⟨i, him, t26, t25, t24, t4, ho, hle, hk⟩
      have ho1 := ho.1
      rw [PB_len] at ho1
      by_cases hi : i < n
      · have hi1 : (i : Int) < (n : Int) := by omega
        have hi0 : (0 : Int) ≤ (i : Int) := by omega
        have gb' := (hk b lb).trans gb
        have hx := hrs i hi
        unfold tickS at hx
        have hw : IntKind.wrap .i64 ((i : Int) + 1) = i + 1 := wrap_i64 (by omega) (by omega)
        have e1 : ((i : Int) + 1) = ((i + 1 : Nat) : Int) := by omega
        have o2 : ObjAt (g.push (.rows 12 [tickS] false)) h.nx (PB i h.nx) := obj_keep ho (Nat.le_succ _) (fun j hj => by rw [H.get_push, if_neg (by omega)])
        have y2 : gRl (DoR PB 2) [.p (some (h.nx + 2, 0, 0)), .agg tickS] (g.push (.rows 12 [tickS] false)) = some (.tup [.sl none 0 0 true, .i .i64 0], layAll (g.push (.rows 12 [tickS] false)) h.nx (PB ((i : Int) + 1) h.nx)) := gRl_at do_one ⟨i, h.nx, ⟨hi0, by omega⟩, hnx, o2, rfl, rfl, rfl⟩
        have on : (layAll (g.push (.rows 12 [tickS] false)) h.nx (PB ((i : Int) + 1) h.nx)).nx = g.nx + 1 := by rw [layAll_nx]; rfl
        have og : ∀ j, (layAll (g.push (.rows 12 [tickS] false)) h.nx (PB ((i : Int) + 1) h.nx)).get j = if h.nx ≤ j ∧ j < h.nx + 37 then (PB ((i : Int) + 1) h.nx)[j - h.nx]? else if j = g.nx then some (.rows 12 [tickS] false) else g.get j := fun j => by rw [layAll_get, PB_len, H.get_push]
        unfold tickS at y2 on og
        generalize hL : layAll _ _ _ = G2 at y2 on og
        simp only [↓STEP, SB, looked, behind, lookOk, AAct.kind, AOp.kind, wpRes, evRes, resV, AOp.ev, bin, binI, binS, shiftI, eqV, un, bound, boundO, fill, fillRows, aggOf, keyEq, findKey, putKey, V.cells, V.flat, byteOf, bytesOf, rdOf, H.wr, H.kOf, splice, isYl, ↓reduceIte, Nat.reduceEqDiff, Nat.reduceLeDiff, Nat.reduceLT, Nat.reduceAdd, Nat.reduceSub, Nat.reduceMul, Int.reduceLT, Int.reduceLE, Int.reduceEq, Int.reduceAdd, Int.reduceSub, Int.reduceMul, Int.reduceNeg, Int.reduceToNat, reduceCtorEq, t26, t25, t24, t4, hi1, hi0, gb', hx, push_set, x2, y2, List.getElem?_cons_zero, List.getElem?_cons_succ, on]
        refine wpA_loop ?_
        simp only [↓STEP, SB, looked, behind, lookOk, AAct.kind, AOp.kind, wpRes, evRes, resV, AOp.ev, bin, binI, binS, shiftI, eqV, un, bound, boundO, fill, fillRows, aggOf, keyEq, findKey, putKey, V.cells, V.flat, byteOf, bytesOf, rdOf, H.wr, H.kOf, splice, isYl, ↓reduceIte, Nat.reduceEqDiff, Nat.reduceLeDiff, Nat.reduceLT, Nat.reduceAdd, Nat.reduceSub, Nat.reduceMul, Int.reduceLT, Int.reduceLE, Int.reduceEq, Int.reduceAdd, Int.reduceSub, Int.reduceMul, Int.reduceNeg, Int.reduceToNat, reduceCtorEq, t26, t25, t24, t4, hw]
        refine ⟨m - 1, by omega, i + 1, by omega, ?_, ?_, ?_, ?_, ⟨?_, ?_⟩, Nat.le_refl _, fun j hj => ?_⟩
        · simp only [↓STEP, SB, looked, behind, lookOk, AAct.kind, AOp.kind, wpRes, evRes, resV, AOp.ev, bin, binI, binS, shiftI, eqV, un, bound, boundO, fill, fillRows, aggOf, keyEq, findKey, putKey, V.cells, V.flat, byteOf, bytesOf, rdOf, H.wr, H.kOf, splice, isYl, ↓reduceIte, Nat.reduceEqDiff, Nat.reduceLeDiff, Nat.reduceLT, Nat.reduceAdd, Nat.reduceSub, Nat.reduceMul, Int.reduceLT, Int.reduceLE, Int.reduceEq, Int.reduceAdd, Int.reduceSub, Int.reduceMul, Int.reduceNeg, Int.reduceToNat, reduceCtorEq, e1]
        · simp only [↓STEP, SB, looked, behind, lookOk, AAct.kind, AOp.kind, wpRes, evRes, resV, AOp.ev, bin, binI, binS, shiftI, eqV, un, bound, boundO, fill, fillRows, aggOf, keyEq, findKey, putKey, V.cells, V.flat, byteOf, bytesOf, rdOf, H.wr, H.kOf, splice, isYl, ↓reduceIte, Nat.reduceEqDiff, Nat.reduceLeDiff, Nat.reduceLT, Nat.reduceAdd, Nat.reduceSub, Nat.reduceMul, Int.reduceLT, Int.reduceLE, Int.reduceEq, Int.reduceAdd, Int.reduceSub, Int.reduceMul, Int.reduceNeg, Int.reduceToNat, reduceCtorEq, t25]
        · simp only [↓STEP, SB, looked, behind, lookOk, AAct.kind, AOp.kind, wpRes, evRes, resV, AOp.ev, bin, binI, binS, shiftI, eqV, un, bound, boundO, fill, fillRows, aggOf, keyEq, findKey, putKey, V.cells, V.flat, byteOf, bytesOf, rdOf, H.wr, H.kOf, splice, isYl, ↓reduceIte, Nat.reduceEqDiff, Nat.reduceLeDiff, Nat.reduceLT, Nat.reduceAdd, Nat.reduceSub, Nat.reduceMul, Int.reduceLT, Int.reduceLE, Int.reduceEq, Int.reduceAdd, Int.reduceSub, Int.reduceMul, Int.reduceNeg, Int.reduceToNat, reduceCtorEq, t24]
        · simp only [↓STEP, SB, looked, behind, lookOk, AAct.kind, AOp.kind, wpRes, evRes, resV, AOp.ev, bin, binI, binS, shiftI, eqV, un, bound, boundO, fill, fillRows, aggOf, keyEq, findKey, putKey, V.cells, V.flat, byteOf, bytesOf, rdOf, H.wr, H.kOf, splice, isYl, ↓reduceIte, Nat.reduceEqDiff, Nat.reduceLeDiff, Nat.reduceLT, Nat.reduceAdd, Nat.reduceSub, Nat.reduceMul, Int.reduceLT, Int.reduceLE, Int.reduceEq, Int.reduceAdd, Int.reduceSub, Int.reduceMul, Int.reduceNeg, Int.reduceToNat, reduceCtorEq, t4]
        · rw [PB_len, on]; omega
        · intro j x hx2
          have hj := (List.getElem?_eq_some_iff.1 hx2).1
          rw [PB_len] at hj
          rw [og, if_pos (by omega), Nat.add_sub_cancel_left, e1]; exact hx2
        · rw [og, if_neg (by omega), if_neg (by omega)]; exact hk j hj
      · obtain rfl : m = 0 := by omega
        have hi1 : ¬ (i : Int) < (n : Int) := by omega
        simp only [↓STEP, SB, looked, behind, lookOk, AAct.kind, AOp.kind, wpRes, evRes, resV, AOp.ev, bin, binI, binS, shiftI, eqV, un, bound, boundO, fill, fillRows, aggOf, keyEq, findKey, putKey, V.cells, V.flat, byteOf, bytesOf, rdOf, H.wr, H.kOf, splice, isYl, ↓reduceIte, Nat.reduceEqDiff, Nat.reduceLeDiff, Nat.reduceLT, Nat.reduceAdd, Nat.reduceSub, Nat.reduceMul, Int.reduceLT, Int.reduceLE, Int.reduceEq, Int.reduceAdd, Int.reduceSub, Int.reduceMul, Int.reduceNeg, Int.reduceToNat, reduceCtorEq, t26, t25, t24, t4, hi1]
        exact ⟨by omega, fun j hj => hk j hj⟩
    · refine ⟨0, by omega, ?_, ?_, ?_, ?_, hobj, Nat.le_refl _, hk0⟩ <;> simp only [↓STEP, SB, looked, behind, lookOk, AAct.kind, AOp.kind, wpRes, evRes, resV, AOp.ev, bin, binI, binS, shiftI, eqV, un, bound, boundO, fill, fillRows, aggOf, keyEq, findKey, putKey, V.cells, V.flat, byteOf, bytesOf, rdOf, H.wr, H.kOf, splice, isYl, ↓reduceIte, Nat.reduceEqDiff, Nat.reduceLeDiff, Nat.reduceLT, Nat.reduceAdd, Nat.reduceSub, Nat.reduceMul, Int.reduceLT, Int.reduceLE, Int.reduceEq, Int.reduceAdd, Int.reduceSub, Int.reduceMul, Int.reduceNeg, Int.reduceToNat, reduceCtorEq] <;> rfl
end Go.Proofs.YtkhnielggkcbiaaGreatDoor.PairK
