/- The law ConnOver at its seat: the walk over the law itself; no condition. -/
import Derived.Test.YtpjoadjbclffpaaGreatOverK
namespace Go.Proofs.YtpjoadjbclffpaaGreat.OverSeat
open Go (IntKind)
open Am Go.Proofs.YtpjoadjbclffpaaGreat.OverK
set_option linter.all false
set_option maxRecDepth 100000
theorem walk (role : Int) (bsl : V) (code : Int) (g : H) (hn : newK role g (fun _ _ => true) = true) (ho : 1 ≤ code → code ≤ 4294967295 → newK role g (restK code bsl) = true) :
    Runs pr (.fn 8) [.i .i64 role, bsl, .i .i64 code] g (fun v _ => v = .b true) := by
  have x0 := @wpCall_ext pr 17 _ rfl
  have y0 : ∀ h, xConst (.b true) [] h = some (.b true, h) := fun h => rfl
  refine runs_of_wpF (af := Go.Proofs.YtpjoadjbclffpaaGreat.LitOver.l8) rfl (by kernel_rfl) ?_
  unfold wpF Go.Proofs.YtpjoadjbclffpaaGreat.LitOver.l8
  refine ⟨by simp, ?_⟩
  simp only [↓STEP, SB, looked, behind, lookOk, AAct.kind, AOp.kind, wpRes, evRes, resV, AOp.ev, bin, binI, binS, shiftI, eqV, un, bound, boundO, fill, fillRows, aggOf, keyEq, findKey, putKey, V.cells, V.flat, byteOf, bytesOf, rdOf, H.wr, H.kOf, splice, isYl, ↓reduceIte, Nat.reduceEqDiff, Nat.reduceLeDiff, Nat.reduceLT, Nat.reduceAdd, Nat.reduceSub, Nat.reduceMul, Int.reduceLT, Int.reduceLE, Int.reduceEq, Int.reduceAdd, Int.reduceSub, Int.reduceMul, Int.reduceNeg, Int.reduceToNat, reduceCtorEq, x0, y0]
  by_cases hc : 1 ≤ code ∧ code ≤ 4294967295
  · have hk := ho hc.1 hc.2
    clear ho hn
    have c1 : ¬ code < 1 := by omega
    have c2 : ¬ code > 4294967295 := by omega
    have c3 : ¬ 4294967295 < code := by omega
    have bb : bytesOf [[V.i IntKind.u8 49], [V.i IntKind.u8 50], [V.i IntKind.u8 51], [V.i IntKind.u8 52], [V.i IntKind.u8 53], [V.i IntKind.u8 54], [V.i IntKind.u8 55], [V.i IntKind.u8 56]].flatten = some [49, 50, 51, 52, 53, 54, 55, 56] := rfl
    unfold newK at hk
    refine Runs.mono (c := .fn 11) («as» := [] ++ []) (runsK hk) ?_
    clear hk
    rintro v1 h1 hk
    try simp only [↓STEP, SB, looked, behind, lookOk, AAct.kind, AOp.kind, wpRes, evRes, resV, AOp.ev, bin, binI, binS, shiftI, eqV, un, bound, boundO, fill, fillRows, aggOf, keyEq, findKey, putKey, V.cells, V.flat, byteOf, bytesOf, rdOf, H.wr, H.kOf, splice, isYl, ↓reduceIte, Nat.reduceEqDiff, Nat.reduceLeDiff, Nat.reduceLT, Nat.reduceAdd, Nat.reduceSub, Nat.reduceMul, Int.reduceLT, Int.reduceLE, Int.reduceEq, Int.reduceAdd, Int.reduceSub, Int.reduceMul, Int.reduceNeg, Int.reduceToNat, reduceCtorEq]
    refine Runs.mono (c := .fn 10) («as» := [.i .i64 role, v1] ++ []) (runsK hk) ?_
    clear hk
    rintro v2 h2 hk
    split at hk
    · rename_i a
      unfold restK at hk
      simp only [↓STEP, SB, looked, behind, lookOk, AAct.kind, AOp.kind, wpRes, evRes, resV, AOp.ev, bin, binI, binS, shiftI, eqV, un, bound, boundO, fill, fillRows, aggOf, keyEq, findKey, putKey, V.cells, V.flat, byteOf, bytesOf, rdOf, H.wr, H.kOf, splice, isYl, ↓reduceIte, Nat.reduceEqDiff, Nat.reduceLeDiff, Nat.reduceLT, Nat.reduceAdd, Nat.reduceSub, Nat.reduceMul, Int.reduceLT, Int.reduceLE, Int.reduceEq, Int.reduceAdd, Int.reduceSub, Int.reduceMul, Int.reduceNeg, Int.reduceToNat, reduceCtorEq, c1, c2, c3, List.getElem?_cons_zero, List.getElem?_cons_succ]
      refine Runs.mono (c := .fn 27) («as» := [.p (some a), .i .i64 1048576] ++ []) (runsG gdOk hk) ?_
      clear hk
      rintro w0 g0 hk
      try simp only [↓STEP, SB, looked, behind, lookOk, AAct.kind, AOp.kind, wpRes, evRes, resV, AOp.ev, bin, binI, binS, shiftI, eqV, un, bound, boundO, fill, fillRows, aggOf, keyEq, findKey, putKey, V.cells, V.flat, byteOf, bytesOf, rdOf, H.wr, H.kOf, splice, isYl, ↓reduceIte, Nat.reduceEqDiff, Nat.reduceLeDiff, Nat.reduceLT, Nat.reduceAdd, Nat.reduceSub, Nat.reduceMul, Int.reduceLT, Int.reduceLE, Int.reduceEq, Int.reduceAdd, Int.reduceSub, Int.reduceMul, Int.reduceNeg, Int.reduceToNat, reduceCtorEq, c1, c2, c3, List.getElem?_cons_zero, List.getElem?_cons_succ, Option.bind_some, bb]
      refine Runs.mono (c := .fn 29) («as» := [.p (some a), .i .i64 code] ++ []) (runsG gdOk hk) ?_
      clear hk
      rintro w1 g1 hk
      split at hk
      case h_2 => cases hk
      try simp only [↓STEP, SB, looked, behind, lookOk, AAct.kind, AOp.kind, wpRes, evRes, resV, AOp.ev, bin, binI, binS, shiftI, eqV, un, bound, boundO, fill, fillRows, aggOf, keyEq, findKey, putKey, V.cells, V.flat, byteOf, bytesOf, rdOf, H.wr, H.kOf, splice, isYl, ↓reduceIte, Nat.reduceEqDiff, Nat.reduceLeDiff, Nat.reduceLT, Nat.reduceAdd, Nat.reduceSub, Nat.reduceMul, Int.reduceLT, Int.reduceLE, Int.reduceEq, Int.reduceAdd, Int.reduceSub, Int.reduceMul, Int.reduceNeg, Int.reduceToNat, reduceCtorEq, c1, c2, c3, List.getElem?_cons_zero, List.getElem?_cons_succ, Option.bind_some, bb]
      refine Runs.mono (c := .fn 27) («as» := [.p (some a), .i .i64 1048576] ++ []) (runsG gdOk hk) ?_
      clear hk
      rintro w2 g2 hk
      split at hk
      case h_2 => cases hk
      try simp only [↓STEP, SB, looked, behind, lookOk, AAct.kind, AOp.kind, wpRes, evRes, resV, AOp.ev, bin, binI, binS, shiftI, eqV, un, bound, boundO, fill, fillRows, aggOf, keyEq, findKey, putKey, V.cells, V.flat, byteOf, bytesOf, rdOf, H.wr, H.kOf, splice, isYl, ↓reduceIte, Nat.reduceEqDiff, Nat.reduceLeDiff, Nat.reduceLT, Nat.reduceAdd, Nat.reduceSub, Nat.reduceMul, Int.reduceLT, Int.reduceLE, Int.reduceEq, Int.reduceAdd, Int.reduceSub, Int.reduceMul, Int.reduceNeg, Int.reduceToNat, reduceCtorEq, c1, c2, c3, List.getElem?_cons_zero, List.getElem?_cons_succ, Option.bind_some, bb]
      refine Runs.mono (c := .fn 14) («as» := [.p (some a), bsl] ++ []) (runsG gdOk hk) ?_
      clear hk
      rintro w3 g3 hk
      split at hk
      case h_2 => cases hk
      try simp only [↓STEP, SB, looked, behind, lookOk, AAct.kind, AOp.kind, wpRes, evRes, resV, AOp.ev, bin, binI, binS, shiftI, eqV, un, bound, boundO, fill, fillRows, aggOf, keyEq, findKey, putKey, V.cells, V.flat, byteOf, bytesOf, rdOf, H.wr, H.kOf, splice, isYl, ↓reduceIte, Nat.reduceEqDiff, Nat.reduceLeDiff, Nat.reduceLT, Nat.reduceAdd, Nat.reduceSub, Nat.reduceMul, Int.reduceLT, Int.reduceLE, Int.reduceEq, Int.reduceAdd, Int.reduceSub, Int.reduceMul, Int.reduceNeg, Int.reduceToNat, reduceCtorEq, c1, c2, c3, List.getElem?_cons_zero, List.getElem?_cons_succ, Option.bind_some, bb]
      refine Runs.mono (c := .fn 16) («as» := [] ++ []) (runsG gdOk hk) ?_
      clear hk
      rintro w4 g4 hk
      try simp only [↓STEP, SB, looked, behind, lookOk, AAct.kind, AOp.kind, wpRes, evRes, resV, AOp.ev, bin, binI, binS, shiftI, eqV, un, bound, boundO, fill, fillRows, aggOf, keyEq, findKey, putKey, V.cells, V.flat, byteOf, bytesOf, rdOf, H.wr, H.kOf, splice, isYl, ↓reduceIte, Nat.reduceEqDiff, Nat.reduceLeDiff, Nat.reduceLT, Nat.reduceAdd, Nat.reduceSub, Nat.reduceMul, Int.reduceLT, Int.reduceLE, Int.reduceEq, Int.reduceAdd, Int.reduceSub, Int.reduceMul, Int.reduceNeg, Int.reduceToNat, reduceCtorEq, c1, c2, c3, List.getElem?_cons_zero, List.getElem?_cons_succ, Option.bind_some, bb]
      refine Runs.mono (c := .fn 15) («as» := [.p (some a), w4, .b true] ++ []) (runsG gdOk hk) ?_
      clear hk
      rintro w5 g5 hk
      split at hk
      case h_2 => cases hk
      try simp only [↓STEP, SB, looked, behind, lookOk, AAct.kind, AOp.kind, wpRes, evRes, resV, AOp.ev, bin, binI, binS, shiftI, eqV, un, bound, boundO, fill, fillRows, aggOf, keyEq, findKey, putKey, V.cells, V.flat, byteOf, bytesOf, rdOf, H.wr, H.kOf, splice, isYl, ↓reduceIte, Nat.reduceEqDiff, Nat.reduceLeDiff, Nat.reduceLT, Nat.reduceAdd, Nat.reduceSub, Nat.reduceMul, Int.reduceLT, Int.reduceLE, Int.reduceEq, Int.reduceAdd, Int.reduceSub, Int.reduceMul, Int.reduceNeg, Int.reduceToNat, reduceCtorEq, c1, c2, c3, List.getElem?_cons_zero, List.getElem?_cons_succ, Option.bind_some, bb]
      refine Runs.mono (c := .fn 20) («as» := [.p (some a), .sl (some (g5.nx, 0)) 8 8 false] ++ []) (runsG gdOk hk) ?_
      clear hk
      rintro w6 g6 hk
      split at hk
      case h_2 => cases hk
      try simp only [↓STEP, SB, looked, behind, lookOk, AAct.kind, AOp.kind, wpRes, evRes, resV, AOp.ev, bin, binI, binS, shiftI, eqV, un, bound, boundO, fill, fillRows, aggOf, keyEq, findKey, putKey, V.cells, V.flat, byteOf, bytesOf, rdOf, H.wr, H.kOf, splice, isYl, ↓reduceIte, Nat.reduceEqDiff, Nat.reduceLeDiff, Nat.reduceLT, Nat.reduceAdd, Nat.reduceSub, Nat.reduceMul, Int.reduceLT, Int.reduceLE, Int.reduceEq, Int.reduceAdd, Int.reduceSub, Int.reduceMul, Int.reduceNeg, Int.reduceToNat, reduceCtorEq, c1, c2, c3, List.getElem?_cons_zero, List.getElem?_cons_succ, Option.bind_some, bb]
      refine Runs.mono (c := .fn 11) («as» := [] ++ []) (runsG gdOk hk) ?_
      clear hk
      rintro w7 g7 hk
      try simp only [↓STEP, SB, looked, behind, lookOk, AAct.kind, AOp.kind, wpRes, evRes, resV, AOp.ev, bin, binI, binS, shiftI, eqV, un, bound, boundO, fill, fillRows, aggOf, keyEq, findKey, putKey, V.cells, V.flat, byteOf, bytesOf, rdOf, H.wr, H.kOf, splice, isYl, ↓reduceIte, Nat.reduceEqDiff, Nat.reduceLeDiff, Nat.reduceLT, Nat.reduceAdd, Nat.reduceSub, Nat.reduceMul, Int.reduceLT, Int.reduceLE, Int.reduceEq, Int.reduceAdd, Int.reduceSub, Int.reduceMul, Int.reduceNeg, Int.reduceToNat, reduceCtorEq, c1, c2, c3, List.getElem?_cons_zero, List.getElem?_cons_succ, Option.bind_some, bb]
      refine Runs.mono (c := .fn 30) («as» := [.p (some a), w7] ++ []) (runsG gdOk hk) ?_
      clear hk
      rintro w8 g8 hk
      split at hk
      case h_2 => cases hk
      try simp only [↓STEP, SB, looked, behind, lookOk, AAct.kind, AOp.kind, wpRes, evRes, resV, AOp.ev, bin, binI, binS, shiftI, eqV, un, bound, boundO, fill, fillRows, aggOf, keyEq, findKey, putKey, V.cells, V.flat, byteOf, bytesOf, rdOf, H.wr, H.kOf, splice, isYl, ↓reduceIte, Nat.reduceEqDiff, Nat.reduceLeDiff, Nat.reduceLT, Nat.reduceAdd, Nat.reduceSub, Nat.reduceMul, Int.reduceLT, Int.reduceLE, Int.reduceEq, Int.reduceAdd, Int.reduceSub, Int.reduceMul, Int.reduceNeg, Int.reduceToNat, reduceCtorEq, c1, c2, c3, List.getElem?_cons_zero, List.getElem?_cons_succ, Option.bind_some, bb]
      refine Runs.mono (c := .fn 29) («as» := [.p (some a), .i .i64 1] ++ []) (runsG gdOk hk) ?_
      clear hk
      rintro w9 g9 hk
      split at hk
      case h_2 => cases hk
      try simp only [↓STEP, SB, looked, behind, lookOk, AAct.kind, AOp.kind, wpRes, evRes, resV, AOp.ev, bin, binI, binS, shiftI, eqV, un, bound, boundO, fill, fillRows, aggOf, keyEq, findKey, putKey, V.cells, V.flat, byteOf, bytesOf, rdOf, H.wr, H.kOf, splice, isYl, ↓reduceIte, Nat.reduceEqDiff, Nat.reduceLeDiff, Nat.reduceLT, Nat.reduceAdd, Nat.reduceSub, Nat.reduceMul, Int.reduceLT, Int.reduceLE, Int.reduceEq, Int.reduceAdd, Int.reduceSub, Int.reduceMul, Int.reduceNeg, Int.reduceToNat, reduceCtorEq, c1, c2, c3, List.getElem?_cons_zero, List.getElem?_cons_succ, Option.bind_some, bb]
      refine Runs.mono (c := .fn 31) («as» := [.p (some a), .i .i64 0, .i .i64 0] ++ []) (runsG gdOk hk) ?_
      clear hk
      rintro w10 g10 hk
      split at hk
      case h_2 => cases hk
      try simp only [↓STEP, SB, looked, behind, lookOk, AAct.kind, AOp.kind, wpRes, evRes, resV, AOp.ev, bin, binI, binS, shiftI, eqV, un, bound, boundO, fill, fillRows, aggOf, keyEq, findKey, putKey, V.cells, V.flat, byteOf, bytesOf, rdOf, H.wr, H.kOf, splice, isYl, ↓reduceIte, Nat.reduceEqDiff, Nat.reduceLeDiff, Nat.reduceLT, Nat.reduceAdd, Nat.reduceSub, Nat.reduceMul, Int.reduceLT, Int.reduceLE, Int.reduceEq, Int.reduceAdd, Int.reduceSub, Int.reduceMul, Int.reduceNeg, Int.reduceToNat, reduceCtorEq, c1, c2, c3, List.getElem?_cons_zero, List.getElem?_cons_succ, Option.bind_some, bb]
      refine Runs.mono (c := .fn 18) («as» := [.p (some a)] ++ []) (runsG gdOk hk) ?_
      clear hk
      rintro w11 g11 hk
      split at hk
      case h_2 => cases hk
      try simp only [↓STEP, SB, looked, behind, lookOk, AAct.kind, AOp.kind, wpRes, evRes, resV, AOp.ev, bin, binI, binS, shiftI, eqV, un, bound, boundO, fill, fillRows, aggOf, keyEq, findKey, putKey, V.cells, V.flat, byteOf, bytesOf, rdOf, H.wr, H.kOf, splice, isYl, ↓reduceIte, Nat.reduceEqDiff, Nat.reduceLeDiff, Nat.reduceLT, Nat.reduceAdd, Nat.reduceSub, Nat.reduceMul, Int.reduceLT, Int.reduceLE, Int.reduceEq, Int.reduceAdd, Int.reduceSub, Int.reduceMul, Int.reduceNeg, Int.reduceToNat, reduceCtorEq, c1, c2, c3, List.getElem?_cons_zero, List.getElem?_cons_succ, Option.bind_some, bb]
      refine Runs.mono (c := .fn 12) («as» := [.p (some a)] ++ []) (runsG gdOk hk) ?_
      clear hk
      rintro w12 g12 hk
      split at hk
      case h_2 => cases hk
      try simp only [↓STEP, SB, looked, behind, lookOk, AAct.kind, AOp.kind, wpRes, evRes, resV, AOp.ev, bin, binI, binS, shiftI, eqV, un, bound, boundO, fill, fillRows, aggOf, keyEq, findKey, putKey, V.cells, V.flat, byteOf, bytesOf, rdOf, H.wr, H.kOf, splice, isYl, ↓reduceIte, Nat.reduceEqDiff, Nat.reduceLeDiff, Nat.reduceLT, Nat.reduceAdd, Nat.reduceSub, Nat.reduceMul, Int.reduceLT, Int.reduceLE, Int.reduceEq, Int.reduceAdd, Int.reduceSub, Int.reduceMul, Int.reduceNeg, Int.reduceToNat, reduceCtorEq, c1, c2, c3, List.getElem?_cons_zero, List.getElem?_cons_succ, Option.bind_some, bb]
    · cases hk
  · clear ho
    unfold newK at hn
    refine Runs.mono (c := .fn 11) («as» := [] ++ []) (runsK hn) ?_
    clear hn
    rintro v1 h1 hk
    try simp only [↓STEP, SB, looked, behind, lookOk, AAct.kind, AOp.kind, wpRes, evRes, resV, AOp.ev, bin, binI, binS, shiftI, eqV, un, bound, boundO, fill, fillRows, aggOf, keyEq, findKey, putKey, V.cells, V.flat, byteOf, bytesOf, rdOf, H.wr, H.kOf, splice, isYl, ↓reduceIte, Nat.reduceEqDiff, Nat.reduceLeDiff, Nat.reduceLT, Nat.reduceAdd, Nat.reduceSub, Nat.reduceMul, Int.reduceLT, Int.reduceLE, Int.reduceEq, Int.reduceAdd, Int.reduceSub, Int.reduceMul, Int.reduceNeg, Int.reduceToNat, reduceCtorEq]
    refine Runs.mono (c := .fn 10) («as» := [.i .i64 role, v1] ++ []) (runsK hk) ?_
    clear hk
    rintro v2 h2 hk
    split at hk
    · rename_i a
      by_cases c1 : code < 1
      · simp only [↓STEP, SB, looked, behind, lookOk, AAct.kind, AOp.kind, wpRes, evRes, resV, AOp.ev, bin, binI, binS, shiftI, eqV, un, bound, boundO, fill, fillRows, aggOf, keyEq, findKey, putKey, V.cells, V.flat, byteOf, bytesOf, rdOf, H.wr, H.kOf, splice, isYl, ↓reduceIte, Nat.reduceEqDiff, Nat.reduceLeDiff, Nat.reduceLT, Nat.reduceAdd, Nat.reduceSub, Nat.reduceMul, Int.reduceLT, Int.reduceLE, Int.reduceEq, Int.reduceAdd, Int.reduceSub, Int.reduceMul, Int.reduceNeg, Int.reduceToNat, reduceCtorEq, c1, List.getElem?_cons_zero, List.getElem?_cons_succ]
        rfl
      · have c2 : code > 4294967295 := by omega
        have c3 : 4294967295 < code := c2
        simp only [↓STEP, SB, looked, behind, lookOk, AAct.kind, AOp.kind, wpRes, evRes, resV, AOp.ev, bin, binI, binS, shiftI, eqV, un, bound, boundO, fill, fillRows, aggOf, keyEq, findKey, putKey, V.cells, V.flat, byteOf, bytesOf, rdOf, H.wr, H.kOf, splice, isYl, ↓reduceIte, Nat.reduceEqDiff, Nat.reduceLeDiff, Nat.reduceLT, Nat.reduceAdd, Nat.reduceSub, Nat.reduceMul, Int.reduceLT, Int.reduceLE, Int.reduceEq, Int.reduceAdd, Int.reduceSub, Int.reduceMul, Int.reduceNeg, Int.reduceToNat, reduceCtorEq, c1, c2, c3, List.getElem?_cons_zero, List.getElem?_cons_succ]
        rfl
    · cases hk
theorem inW_of {n : Int} (h1 : 1 ≤ n) (h2 : n ≤ 4294967295) : inW n = true := by
  rw [inW_eq, decide_eq_true (by omega : (0 : Int) ≤ n), decide_eq_true (by omega : n < 4294967296)]; rfl
theorem of_ofNat {P : Int → Prop} {n : Int} (h : 1 ≤ n) (hp : ∀ m : Nat, P (Int.ofNat (m + 1))) : P n := by
  obtain ⟨m, rfl⟩ : ∃ m : Nat, n = Int.ofNat (m + 1) := ⟨(n - 1).toNat, by show n = ((n - 1).toNat + 1 : Nat); omega⟩
  exact hp m
theorem two (role : Int) (hr : role = 1 ∨ role = 2) (bsl : V) (code : Int) (g : H) (hg : g = h0 ∨ g = h0e ∨ ∃ l, g = h0.push (.bytes l true)) :
    Runs pr (.fn 8) [.i .i64 role, bsl, .i .i64 code] g (fun v _ => v = .b true) := by
  rcases hr with rfl | rfl <;> rcases hg with rfl | rfl | ⟨l, rfl⟩
  · refine walk _ _ _ _ n1a fun h1 h2 => ?_
    have e := inW_of h1 h2
    revert e
    exact of_ofNat (P := fun n => inW n = true → newK 1 h0 (restK n bsl) = true) h1 fun m e => (o1a m bsl).trans ((rhs_eq _).trans e)
  · refine walk _ _ _ _ n1c fun h1 h2 => ?_
    have e := inW_of h1 h2
    revert e
    exact of_ofNat (P := fun n => inW n = true → newK 1 h0e (restK n bsl) = true) h1 fun m e => (o1c m bsl).trans ((rhs_eq _).trans e)
  · refine walk _ _ _ _ (n1b l) fun h1 h2 => ?_
    have e := inW_of h1 h2
    revert e
    exact of_ofNat (P := fun n => inW n = true → newK 1 _ (restK n bsl) = true) h1 fun m e => (o1b m bsl l).trans ((rhs_eq _).trans e)
  · refine walk _ _ _ _ n2a fun h1 h2 => ?_
    have e := inW_of h1 h2
    revert e
    exact of_ofNat (P := fun n => inW n = true → newK 2 h0 (restK n bsl) = true) h1 fun m e => (o2a m bsl).trans ((rhs_eq _).trans e)
  · refine walk _ _ _ _ n2c fun h1 h2 => ?_
    have e := inW_of h1 h2
    revert e
    exact of_ofNat (P := fun n => inW n = true → newK 2 h0e (restK n bsl) = true) h1 fun m e => (o2c m bsl).trans ((rhs_eq _).trans e)
  · refine walk _ _ _ _ (n2b l) fun h1 h2 => ?_
    have e := inW_of h1 h2
    revert e
    exact of_ofNat (P := fun n => inW n = true → newK 2 _ (restK n bsl) = true) h1 fun m e => (o2b m bsl l).trans ((rhs_eq _).trans e)
theorem out {xs : List V} {g : H} (hr : Runs pr (.fn 8) xs g (fun v _ => v = .b true)) : ∃ m v h', Am.runN pr m (.fn 8) xs g = some (v, h') ∧ v = .b true := hr
theorem overLaw (xs : List Dt) (h : Dt.hasL [.i .i64, .bs, .i .i64] xs) : ∃ m v h', Am.runN pr m (.fn 8) (Dt.args xs h0).1 (Dt.args xs h0).2 = some (v, h') ∧ v = .b true := by
  obtain ⟨x, xs, rfl, hx, h⟩ := hasL_cons h
  obtain ⟨y, xs, rfl, hy, h⟩ := hasL_cons h
  obtain ⟨z, xs, rfl, hz, h⟩ := hasL_cons h
  obtain rfl := hasL_nil h
  obtain ⟨role, rfl, _, _⟩ := has_i hx
  obtain ⟨code, rfl, _, _⟩ := has_i hz
  by_cases hr : role = 1 ∨ role = 2
  · rcases has_bs hy with rfl | ⟨l, rfl, _⟩
    · exact out (two role hr _ code _ (.inl rfl))
    · cases l with
      | nil => exact out (two role hr _ code _ (.inr (.inl rfl)))
      | cons c l => exact out (two role hr _ code _ (.inr (.inr ⟨c :: l, rfl⟩)))
  · have key : ∀ b : Dt, (b = .nl ∨ ∃ l, b = .bs l) → (∃ m : Nat, role = .ofNat (m + 3)) ∨ role = .ofNat 0 ∨ (∃ m : Nat, role = .negSucc m) → ∃ m v h', Am.runN pr m (.fn 8) (Dt.args [.i .i64 role, b, .i .i64 code] h0).1 (Dt.args [.i .i64 role, b, .i .i64 code] h0).2 = some (v, h') ∧ v = .b true := by
      rintro b (rfl | ⟨l, rfl⟩) (⟨m, rfl⟩ | rfl | ⟨m, rfl⟩)
      · exact lawK_run (xpnl m 0 [] code)
      · exact lawK_run (xznl 0 0 [] code)
      · exact lawK_run (xnnl m 0 [] code)
      · cases l with
        | nil => exact lawK_run (xpe m 0 [] code)
        | cons c l => exact lawK_run (xpc m c l code)
      · cases l with
        | nil => exact lawK_run (xze 0 0 [] code)
        | cons c l => exact lawK_run (xzc 0 c l code)
      · cases l with
        | nil => exact lawK_run (xne m 0 [] code)
        | cons c l => exact lawK_run (xnc m c l code)
    refine key y ?_ ?_
    · rcases has_bs hy with rfl | ⟨l, rfl, _⟩
      · exact .inl rfl
      · exact .inr ⟨l, rfl⟩
    · rcases role with m | m
      · rcases m with _ | _ | _ | m
        · exact .inr (.inl rfl)
        · exact absurd (.inl rfl) hr
        · exact absurd (.inr rfl) hr
        · exact .inl ⟨m, rfl⟩
      · exact .inr (.inr ⟨m, rfl⟩)
end Go.Proofs.YtpjoadjbclffpaaGreat.OverSeat
