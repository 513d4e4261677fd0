/- The law ConnPing at its seat: the kernel's runs, and the walk over the law itself. -/
import Derived.Test.YtpjoadjbclffpaaGreatPingK
namespace Go.Proofs.YtpjoadjbclffpaaGreat.PingSeat
open Am Go.Proofs.YtpjoadjbclffpaaGreat.PingK
set_option linter.all false
set_option maxRecDepth 100000
theorem bseg_of {h : H} {d : Nat} {bs l : List UInt8} {ro : Bool} (g : h.get d = some (.bytes bs ro)) (ht : bs.take 8 = l) (h8 : l.length = 8) : h.bseg (some (d, 0)) 8 = some l := by
  unfold H.bseg
  have : 8 ≤ bs.length := by rw [← ht, List.length_take] at h8; omega
  simp [g, ht, this]
theorem law8 (l : List UInt8) (sv : Bool) (h8 : l.length = 8) (hk : chkP l sv = true) : ∃ m v h', Am.runN pr m (.fn 4) (Dt.args [.bs l, .b sv] h0).1 (Dt.args [.bs l, .b sv] h0).2 = some (v, h') ∧ v = .b true := by
  have x0 := @wpCall_ext pr 17 _ rfl
  have y0 : ∀ h, xConst (.b true) [] h = some (.b true, h) := fun h => rfl
  have hne : l.isEmpty = false := by cases l <;> simp_all
  have ha : Dt.args [.bs l, .b sv] h0 = ([.sl (some (4096, 0)) 8 8 false, .b sv], h0.push (.bytes l true)) := by
    simp only [Dt.args, Dt.arg, Dt.lay, hne, h8]
    rfl
  rw [ha]
  refine runs_of_wpF (af := Go.Proofs.YtpjoadjbclffpaaGreat.LitPing.l4) rfl (by kernel_rfl) ?_
  unfold chkP at hk
  generalize h0.push (.bytes l true) = g at *
  unfold wpF Go.Proofs.YtpjoadjbclffpaaGreat.LitPing.l4
  refine ⟨by simp, ?_⟩
  simp only [↓STEP, SB, looked, behind, lookOk, AAct.kind, AOp.kind, wpRes, evRes, resV, AOp.ev, bin, binI, binS, shiftI, eqV, un, bound, boundO, fill, fillRows, aggOf, keyEq, findKey, putKey, V.cells, V.flat, byteOf, bytesOf, rdOf, H.wr, H.kOf, splice, isYl, ↓reduceIte, Nat.reduceEqDiff, Nat.reduceLeDiff, Nat.reduceLT, Nat.reduceAdd, Nat.reduceSub, Nat.reduceMul, Int.reduceLT, Int.reduceLE, Int.reduceEq, Int.reduceAdd, Int.reduceSub, Int.reduceMul, Int.reduceNeg, Int.reduceToNat, reduceCtorEq, x0, y0]
  refine Runs.mono (c := .fn 11) («as» := [] ++ []) (runsK hk) ?_
  clear hk
  rintro v1 h1 hk
  try simp only [↓STEP, SB, looked, behind, lookOk, AAct.kind, AOp.kind, wpRes, evRes, resV, AOp.ev, bin, binI, binS, shiftI, eqV, un, bound, boundO, fill, fillRows, aggOf, keyEq, findKey, putKey, V.cells, V.flat, byteOf, bytesOf, rdOf, H.wr, H.kOf, splice, isYl, ↓reduceIte, Nat.reduceEqDiff, Nat.reduceLeDiff, Nat.reduceLT, Nat.reduceAdd, Nat.reduceSub, Nat.reduceMul, Int.reduceLT, Int.reduceLE, Int.reduceEq, Int.reduceAdd, Int.reduceSub, Int.reduceMul, Int.reduceNeg, Int.reduceToNat, reduceCtorEq]
  refine Runs.mono (c := .fn 11) («as» := [] ++ []) (runsK hk) ?_
  clear hk
  rintro v2 h2 hk
  try simp only [↓STEP, SB, looked, behind, lookOk, AAct.kind, AOp.kind, wpRes, evRes, resV, AOp.ev, bin, binI, binS, shiftI, eqV, un, bound, boundO, fill, fillRows, aggOf, keyEq, findKey, putKey, V.cells, V.flat, byteOf, bytesOf, rdOf, H.wr, H.kOf, splice, isYl, ↓reduceIte, Nat.reduceEqDiff, Nat.reduceLeDiff, Nat.reduceLT, Nat.reduceAdd, Nat.reduceSub, Nat.reduceMul, Int.reduceLT, Int.reduceLE, Int.reduceEq, Int.reduceAdd, Int.reduceSub, Int.reduceMul, Int.reduceNeg, Int.reduceToNat, reduceCtorEq]
  refine Runs.mono (c := .fn 19) («as» := [v1, v2] ++ []) (runsK hk) ?_
  clear hk
  rintro v3 h3 hk
  split at hk
  · rename_i a b
    cases sv
    · simp only [Bool.false_eq_true, if_false] at hk
      simp only [↓STEP, SB, looked, behind, lookOk, AAct.kind, AOp.kind, wpRes, evRes, resV, AOp.ev, bin, binI, binS, shiftI, eqV, un, bound, boundO, fill, fillRows, aggOf, keyEq, findKey, putKey, V.cells, V.flat, byteOf, bytesOf, rdOf, H.wr, H.kOf, splice, isYl, ↓reduceIte, Nat.reduceEqDiff, Nat.reduceLeDiff, Nat.reduceLT, Nat.reduceAdd, Nat.reduceSub, Nat.reduceMul, Int.reduceLT, Int.reduceLE, Int.reduceEq, Int.reduceAdd, Int.reduceSub, Int.reduceMul, Int.reduceNeg, Int.reduceToNat, reduceCtorEq, List.getElem?_cons_zero, List.getElem?_cons_succ]
      refine Runs.mono (c := .fn 20) («as» := [.p (some a), .sl (some (4096, 0)) 8 8 false] ++ []) (runsK hk) ?_
      clear hk
      rintro v4 h4 hk
      split at hk
      · try simp only [↓STEP, SB, looked, behind, lookOk, AAct.kind, AOp.kind, wpRes, evRes, resV, AOp.ev, bin, binI, binS, shiftI, eqV, un, bound, boundO, fill, fillRows, aggOf, keyEq, findKey, putKey, V.cells, V.flat, byteOf, bytesOf, rdOf, H.wr, H.kOf, splice, isYl, ↓reduceIte, Nat.reduceEqDiff, Nat.reduceLeDiff, Nat.reduceLT, Nat.reduceAdd, Nat.reduceSub, Nat.reduceMul, Int.reduceLT, Int.reduceLE, Int.reduceEq, Int.reduceAdd, Int.reduceSub, Int.reduceMul, Int.reduceNeg, Int.reduceToNat, reduceCtorEq]
        refine Runs.mono (c := .fn 21) («as» := [.p (some a), .p (some b)] ++ []) (runsK hk) ?_
        clear hk
        rintro v5 h5 hk
        unfold evs2 at hk
        split at hk
        · simp only [Bool.false_eq_true, if_false] at hk
          obtain ⟨e, n1, e1, a2, n2, e2, rs, row, ro, d, n3, e3, bs, ro2, bs2, ro3, w1, w2, w4, w5, w6, rfl, rfl, g1, rfl, g2, g3, g4, rfl⟩ := evs_true hk
          have b1 := bseg_of g2 g4 h8
          have b2 := bseg_of g3 (List.take_of_length_le (Nat.le_of_eq h8)) h8
          simp only [↓STEP, SB, looked, behind, lookOk, AAct.kind, AOp.kind, wpRes, evRes, resV, AOp.ev, bin, binI, binS, shiftI, eqV, un, bound, boundO, fill, fillRows, aggOf, keyEq, findKey, putKey, V.cells, V.flat, byteOf, bytesOf, rdOf, H.wr, H.kOf, splice, isYl, ↓reduceIte, Nat.reduceEqDiff, Nat.reduceLeDiff, Nat.reduceLT, Nat.reduceAdd, Nat.reduceSub, Nat.reduceMul, Int.reduceLT, Int.reduceLE, Int.reduceEq, Int.reduceAdd, Int.reduceSub, Int.reduceMul, Int.reduceNeg, Int.reduceToNat, reduceCtorEq, g1, g2, g3]
          rw [b1, b2]
          simp [↓STEP, SB, looked, behind, lookOk, AAct.kind, AOp.kind, wpRes, evRes, resV, AOp.ev, bin, binI, binS, shiftI, eqV, un, bound, boundO, fill, fillRows, aggOf, keyEq, findKey, putKey, V.cells, V.flat, byteOf, bytesOf, rdOf, H.wr, H.kOf, splice, isYl, ↓reduceIte, Nat.reduceEqDiff, Nat.reduceLeDiff, Nat.reduceLT, Nat.reduceAdd, Nat.reduceSub, Nat.reduceMul, Int.reduceLT, Int.reduceLE, Int.reduceEq, Int.reduceAdd, Int.reduceSub, Int.reduceMul, Int.reduceNeg, Int.reduceToNat, reduceCtorEq, V.beq, b2]
        · cases hk
      · cases hk
    · simp only [if_true] at hk
      simp only [↓STEP, SB, looked, behind, lookOk, AAct.kind, AOp.kind, wpRes, evRes, resV, AOp.ev, bin, binI, binS, shiftI, eqV, un, bound, boundO, fill, fillRows, aggOf, keyEq, findKey, putKey, V.cells, V.flat, byteOf, bytesOf, rdOf, H.wr, H.kOf, splice, isYl, ↓reduceIte, Nat.reduceEqDiff, Nat.reduceLeDiff, Nat.reduceLT, Nat.reduceAdd, Nat.reduceSub, Nat.reduceMul, Int.reduceLT, Int.reduceLE, Int.reduceEq, Int.reduceAdd, Int.reduceSub, Int.reduceMul, Int.reduceNeg, Int.reduceToNat, reduceCtorEq, List.getElem?_cons_zero, List.getElem?_cons_succ]
      refine Runs.mono (c := .fn 20) («as» := [.p (some b), .sl (some (4096, 0)) 8 8 false] ++ []) (runsK hk) ?_
      clear hk
      rintro v4 h4 hk
      split at hk
      · try simp only [↓STEP, SB, looked, behind, lookOk, AAct.kind, AOp.kind, wpRes, evRes, resV, AOp.ev, bin, binI, binS, shiftI, eqV, un, bound, boundO, fill, fillRows, aggOf, keyEq, findKey, putKey, V.cells, V.flat, byteOf, bytesOf, rdOf, H.wr, H.kOf, splice, isYl, ↓reduceIte, Nat.reduceEqDiff, Nat.reduceLeDiff, Nat.reduceLT, Nat.reduceAdd, Nat.reduceSub, Nat.reduceMul, Int.reduceLT, Int.reduceLE, Int.reduceEq, Int.reduceAdd, Int.reduceSub, Int.reduceMul, Int.reduceNeg, Int.reduceToNat, reduceCtorEq]
        refine Runs.mono (c := .fn 21) («as» := [.p (some a), .p (some b)] ++ []) (runsK hk) ?_
        clear hk
        rintro v5 h5 hk
        unfold evs2 at hk
        split at hk
        · simp only [if_true] at hk
          obtain ⟨e, n1, e1, a2, n2, e2, rs, row, ro, d, n3, e3, bs, ro2, bs2, ro3, w1, w2, w4, w5, w6, rfl, rfl, g1, rfl, g2, g3, g4, rfl⟩ := evs_true hk
          have b1 := bseg_of g2 g4 h8
          have b2 := bseg_of g3 (List.take_of_length_le (Nat.le_of_eq h8)) h8
          simp only [↓STEP, SB, looked, behind, lookOk, AAct.kind, AOp.kind, wpRes, evRes, resV, AOp.ev, bin, binI, binS, shiftI, eqV, un, bound, boundO, fill, fillRows, aggOf, keyEq, findKey, putKey, V.cells, V.flat, byteOf, bytesOf, rdOf, H.wr, H.kOf, splice, isYl, ↓reduceIte, Nat.reduceEqDiff, Nat.reduceLeDiff, Nat.reduceLT, Nat.reduceAdd, Nat.reduceSub, Nat.reduceMul, Int.reduceLT, Int.reduceLE, Int.reduceEq, Int.reduceAdd, Int.reduceSub, Int.reduceMul, Int.reduceNeg, Int.reduceToNat, reduceCtorEq, g1, g2, g3]
          rw [b1, b2]
          simp [↓STEP, SB, looked, behind, lookOk, AAct.kind, AOp.kind, wpRes, evRes, resV, AOp.ev, bin, binI, binS, shiftI, eqV, un, bound, boundO, fill, fillRows, aggOf, keyEq, findKey, putKey, V.cells, V.flat, byteOf, bytesOf, rdOf, H.wr, H.kOf, splice, isYl, ↓reduceIte, Nat.reduceEqDiff, Nat.reduceLeDiff, Nat.reduceLT, Nat.reduceAdd, Nat.reduceSub, Nat.reduceMul, Int.reduceLT, Int.reduceLE, Int.reduceEq, Int.reduceAdd, Int.reduceSub, Int.reduceMul, Int.reduceNeg, Int.reduceToNat, reduceCtorEq, V.beq, b2]
        · cases hk
      · cases hk
  · cases hk

theorem pingLaw (xs : List Dt) (h : Dt.hasL [.bs, .b] xs) : ∃ m v h', Am.runN pr m (.fn 4) (Dt.args xs h0).1 (Dt.args xs h0).2 = some (v, h') ∧ v = .b true := by
  match xs, h with
  | [.nl, .b false], _ => exact lawK_run nl_f
  | [.nl, .b true], _ => exact lawK_run nl_t
  | [.bs [], .b false], _ => exact lawK_run (r0_f)
  | [.bs [x0], .b false], _ => exact lawK_run (r1_f x0)
  | [.bs [x0, x1], .b false], _ => exact lawK_run (r2_f x0 x1)
  | [.bs [x0, x1, x2], .b false], _ => exact lawK_run (r3_f x0 x1 x2)
  | [.bs [x0, x1, x2, x3], .b false], _ => exact lawK_run (r4_f x0 x1 x2 x3)
  | [.bs [x0, x1, x2, x3, x4], .b false], _ => exact lawK_run (r5_f x0 x1 x2 x3 x4)
  | [.bs [x0, x1, x2, x3, x4, x5], .b false], _ => exact lawK_run (r6_f x0 x1 x2 x3 x4 x5)
  | [.bs [x0, x1, x2, x3, x4, x5, x6], .b false], _ => exact lawK_run (r7_f x0 x1 x2 x3 x4 x5 x6)
  | [.bs [x0, x1, x2, x3, x4, x5, x6, x7], .b false], _ => exact law8 _ _ rfl (by rw [c8_f, eqS_eq]; simp)
  | [.bs (x0 :: x1 :: x2 :: x3 :: x4 :: x5 :: x6 :: x7 :: x8 :: l), .b false], _ => exact lawK_run (r9_f x0 x1 x2 x3 x4 x5 x6 x7 x8 l)
  | [.bs [], .b true], _ => exact lawK_run (r0_t)
  | [.bs [x0], .b true], _ => exact lawK_run (r1_t x0)
  | [.bs [x0, x1], .b true], _ => exact lawK_run (r2_t x0 x1)
  | [.bs [x0, x1, x2], .b true], _ => exact lawK_run (r3_t x0 x1 x2)
  | [.bs [x0, x1, x2, x3], .b true], _ => exact lawK_run (r4_t x0 x1 x2 x3)
  | [.bs [x0, x1, x2, x3, x4], .b true], _ => exact lawK_run (r5_t x0 x1 x2 x3 x4)
  | [.bs [x0, x1, x2, x3, x4, x5], .b true], _ => exact lawK_run (r6_t x0 x1 x2 x3 x4 x5)
  | [.bs [x0, x1, x2, x3, x4, x5, x6], .b true], _ => exact lawK_run (r7_t x0 x1 x2 x3 x4 x5 x6)
  | [.bs [x0, x1, x2, x3, x4, x5, x6, x7], .b true], _ => exact law8 _ _ rfl (by rw [c8_t, eqS_eq]; simp)
  | [.bs (x0 :: x1 :: x2 :: x3 :: x4 :: x5 :: x6 :: x7 :: x8 :: l), .b true], _ => exact lawK_run (r9_t x0 x1 x2 x3 x4 x5 x6 x7 x8 l)
end Go.Proofs.YtpjoadjbclffpaaGreat.PingSeat
