/- The law ConnFirst at its seat: the walk over the law itself; no condition. -/
import Derived.Test.YtpjoadjbclffpaaGreatFirstT1
import Derived.Test.YtpjoadjbclffpaaGreatFirstT2
import Derived.Test.YtpjoadjbclffpaaGreatFirstT3
import Derived.Test.YtpjoadjbclffpaaGreatFirstT4
import Derived.Test.YtpjoadjbclffpaaGreatFirstT5
import Derived.Test.YtpjoadjbclffpaaGreatConf1
import Derived.Test.YtpjoadjbclffpaaGreatAmFam
namespace Go.Proofs.YtpjoadjbclffpaaGreat.FirstSeat
open Go (IntKind)
open Am Go.Proofs.YtpjoadjbclffpaaGreat.FirstK
set_option linter.all false
set_option maxRecDepth 100000
theorem reqs : ∀ k, k < 100 → reqOk k = true
  | 0, _ => q0
  | 1, _ => q1
  | 2, _ => q2
  | 3, _ => q3
  | 4, _ => q4
  | 5, _ => q5
  | 6, _ => q6
  | 7, _ => q7
  | 8, _ => q8
  | 9, _ => q9
  | 10, _ => q10
  | 11, _ => q11
  | 12, _ => q12
  | 13, _ => q13
  | 14, _ => q14
  | 15, _ => q15
  | 16, _ => q16
  | 17, _ => q17
  | 18, _ => q18
  | 19, _ => q19
  | 20, _ => q20
  | 21, _ => q21
  | 22, _ => q22
  | 23, _ => q23
  | 24, _ => q24
  | 25, _ => q25
  | 26, _ => q26
  | 27, _ => q27
  | 28, _ => q28
  | 29, _ => q29
  | 30, _ => q30
  | 31, _ => q31
  | 32, _ => q32
  | 33, _ => q33
  | 34, _ => q34
  | 35, _ => q35
  | 36, _ => q36
  | 37, _ => q37
  | 38, _ => q38
  | 39, _ => q39
  | 40, _ => q40
  | 41, _ => q41
  | 42, _ => q42
  | 43, _ => q43
  | 44, _ => q44
  | 45, _ => q45
  | 46, _ => q46
  | 47, _ => q47
  | 48, _ => q48
  | 49, _ => q49
  | 50, _ => q50
  | 51, _ => q51
  | 52, _ => q52
  | 53, _ => q53
  | 54, _ => q54
  | 55, _ => q55
  | 56, _ => q56
  | 57, _ => q57
  | 58, _ => q58
  | 59, _ => q59
  | 60, _ => q60
  | 61, _ => q61
  | 62, _ => q62
  | 63, _ => q63
  | 64, _ => q64
  | 65, _ => q65
  | 66, _ => q66
  | 67, _ => q67
  | 68, _ => q68
  | 69, _ => q69
  | 70, _ => q70
  | 71, _ => q71
  | 72, _ => q72
  | 73, _ => q73
  | 74, _ => q74
  | 75, _ => q75
  | 76, _ => q76
  | 77, _ => q77
  | 78, _ => q78
  | 79, _ => q79
  | 80, _ => q80
  | 81, _ => q81
  | 82, _ => q82
  | 83, _ => q83
  | 84, _ => q84
  | 85, _ => q85
  | 86, _ => q86
  | 87, _ => q87
  | 88, _ => q88
  | 89, _ => q89
  | 90, _ => q90
  | 91, _ => q91
  | 92, _ => q92
  | 93, _ => q93
  | 94, _ => q94
  | 95, _ => q95
  | 96, _ => q96
  | 97, _ => q97
  | 98, _ => q98
  | 99, _ => q99
  | k + 100, h => absurd h (by omega)
theorem S_nx (k : Nat) : (S k).nx = 4109 + 7 * k := by cases k <;> rfl
theorem G_nx (k : Nat) : (G k).nx = 4110 + 7 * k := by show (S k).nx + 1 = _; rw [S_nx]; omega
theorem qG_nx (k : Nat) : (qG k).nx = if k = 101 then 4813 else 4110 + 7 * k := by
  unfold qG
  split
  · rfl
  · exact G_nx k
theorem qG_inj (i j : Nat) (hi : i < 102) (hj : j < 102) (h : qG i = qG j) : i = j := by
  have := congrArg H.nx h
  rw [qG_nx, qG_nx] at this
  split at this <;> split at this <;> omega
theorem reqX : ExtFor Tryz.prog 15 (gFam 102 qA qG qV qS) := by
  refine ExtFor.fam (L := qL) (n := 3000) okC (by kernel_rfl) (af := Go.Proofs.YtpjoadjbclffpaaGreat.LitFirst.l15) (by kernel_rfl) fun k hk => ?_
  by_cases h1 : k < 100
  · have e1 : qA k = argsR k := if_neg (by omega)
    have e2 : qG k = G k := if_neg (by omega)
    have e3 : qS k = S (k + 1) := if_pos h1
    have e4 : qL k = newL k := if_pos h1
    have e5 : qV k = ansR k := if_pos h1
    rw [e1, e2, e3, e4, e5]
    exact reqs k h1
  · by_cases h2 : k = 100
    · subst h2
      exact q100
    · obtain rfl : k = 101 := by omega
      exact q101
theorem newX : ExtFor Tryz.prog 10 (gFam 1 (fun _ => [.i .i64 1, vList0]) (fun _ => h0) (fun _ => .tup [.p (some (4102, 0, 0)), .i .i64 0]) (fun _ => S 0)) :=
  ExtFor.fam (L := fun _ => [4105, 4106, 4107, 4108, 4109, 4110, 4111, 4115, 4116, 4117, 4118, 4119, 4215]) (n := 3000) okC (by kernel_rfl) (af := Go.Proofs.YtpjoadjbclffpaaGreat.LitFirst.l10) (by kernel_rfl) fun k hk => newT
theorem resetX : ExtFor Tryz.prog 22 (gFam 1 (fun _ => [.p (some (4102, 0, 0)), .i .i64 1, .i .i64 8]) (fun _ => T1) (fun _ => .i .i64 0) (fun _ => T2)) :=
  ExtFor.fam (L := fun _ => [4842, 4852]) (n := 3000) okC (by kernel_rfl) (af := Go.Proofs.YtpjoadjbclffpaaGreat.LitFirst.l22) (by kernel_rfl) fun k hk => resetT
def gGet (ys : List V) (h : H) : Option (V × H) :=
  match ys with
  | [] => some (.sl (some (h.nx, 0)) 3 3 true, h.push getB)
  | _ => none
theorem get_ok {pr : Prog} : OkFor pr Go.Proofs.YtpjoadjbclffpaaGreat.LitFirst.l16 gGet := by
  intro ys h v h' hg
  unfold gGet at hg
  split at hg
  · cases hg
    unfold wpF Go.Proofs.YtpjoadjbclffpaaGreat.LitFirst.l16
    refine ⟨by simp, ?_⟩
    simp only [↓STEP, SB, looked, behind, lookOk, AAct.kind, AOp.kind, wpRes, evRes, resV, AOp.ev, bin, binI, binS, shiftI, eqV, un, bound, boundO, fill, fillRows, aggOf, keyEq, findKey, putKey, V.cells, V.flat, byteOf, bytesOf, rdOf, H.wr, H.kOf, splice, isYl, ↓reduceIte, Nat.reduceEqDiff, Nat.reduceLeDiff, Nat.reduceLT, Nat.reduceAdd, Nat.reduceSub, Nat.reduceMul, Int.reduceLT, Int.reduceLE, Int.reduceEq, Int.reduceAdd, Int.reduceSub, Int.reduceMul, Int.reduceNeg, Int.reduceToNat, reduceCtorEq]
    exact Abs.eq rfl rfl
  · cases hg
noncomputable def prD : Prog := prC.add 16 gGet
theorem okD : ProgOk Tryz.prog prD := okC.add (af := Go.Proofs.YtpjoadjbclffpaaGreat.LitFirst.l16) (by kernel_rfl) get_ok
noncomputable def pr : Prog := ((prD.add 10 (gFam 1 (fun _ => [.i .i64 1, vList0]) (fun _ => h0) (fun _ => .tup [.p (some (4102, 0, 0)), .i .i64 0]) (fun _ => S 0))).add 22 (gFam 1 (fun _ => [.p (some (4102, 0, 0)), .i .i64 1, .i .i64 8]) (fun _ => T1) (fun _ => .i .i64 0) (fun _ => T2))).add 15 (gFam 102 qA qG qV qS)
theorem ok : ProgOk Tryz.prog pr := ((okD.addFor newX).addFor resetX).addFor reqX
def Loop (m : Nat) (t : Tm) (h : H) : Prop := ∃ k, k + m = 100 ∧ t.v 3 = .i .i64 k ∧ t.v 1 = .p (some (4102, 0, 0)) ∧ h = S k
theorem firstRuns : Runs pr (.fn 5) [] h0 (fun v _ => v = .b true) := by
  have x0 := @wpCall_ext pr 17 _ rfl
  have y0 : ∀ h, xConst (.b true) [] h = some (.b true, h) := fun h => rfl
  have x1 := @wpCall_ext pr 11 _ rfl
  have y1 : ∀ h, xConst vList0 [] h = some (vList0, h) := fun h => rfl
  have x2 := @wpCall_ext pr 10 _ rfl
  have y2 : gFam 1 (fun _ => [.i .i64 1, vList0]) (fun _ => h0) (fun _ => .tup [.p (some (4102, 0, 0)), .i .i64 0]) (fun _ => S 0) [.i .i64 1, vList0] h0 = some (.tup [.p (some (4102, 0, 0)), .i .i64 0], S 0) := gFam_at (A := fun _ => [.i .i64 1, vList0]) (G := fun _ => h0) (k := 0) (fun i j hi hj _ => by omega) (by omega)
  have x3 := @wpCall_ext pr 16 _ rfl
  have y3 : ∀ h, gGet [] h = some (.sl (some (h.nx, 0)) 3 3 true, h.push getB) := fun h => rfl
  have x4 := @wpCall_ext pr 15 _ rfl
  have y4 : ∀ k, k < 100 → gFam 102 qA qG qV qS [.p (some (4102, 0, 0)), .sl (some ((S k).nx, 0)) 3 3 true, .b true] ((S k).push getB) = some (.tup [.i .i64 (.ofNat (2 * k + 1)), .i .i64 0], S (k + 1)) := by
    intro k hk
    have := gFam_at (A := qA) (G := qG) (v := qV) (S := qS) (k := k) (N := 102) qG_inj (by omega)
    have e1 : qA k = argsR k := if_neg (by omega)
    have e2 : qG k = G k := if_neg (by omega)
    have e3 : qS k = S (k + 1) := if_pos hk
    have e5 : qV k = ansR k := if_pos hk
    rw [e1, e2, e3, e5] at this
    rw [S_nx]
    exact this
  have y5 : gFam 102 qA qG qV qS [.p (some (4102, 0, 0)), .sl (some ((S 100).nx, 0)) 3 3 true, .b true] ((S 100).push getB) = some (.tup [.i .i64 0, .i .i64 9], T1) := gFam_at (A := qA) (G := qG) (v := qV) (S := qS) (k := 100) (N := 102) qG_inj (by omega)
  have y6 : gFam 102 qA qG qV qS [.p (some (4102, 0, 0)), .sl (some (T2.nx, 0)) 3 3 true, .b true] (T2.push getB) = some (.tup [.i .i64 0, .i .i64 9], ⟨4813, T2.tr⟩) := gFam_at (A := qA) (G := qG) (v := qV) (S := qS) (k := 101) (N := 102) qG_inj (by omega)
  have x7 := @wpCall_ext pr 22 _ rfl
  have y7 : gFam 1 (fun _ => [.p (some (4102, 0, 0)), .i .i64 1, .i .i64 8]) (fun _ => T1) (fun _ => .i .i64 0) (fun _ => T2) [.p (some (4102, 0, 0)), .i .i64 1, .i .i64 8] T1 = some (.i .i64 0, T2) := gFam_at (A := fun _ => [.p (some (4102, 0, 0)), .i .i64 1, .i .i64 8]) (G := fun _ => T1) (k := 0) (fun i j hi hj _ => by omega) (by omega)
  have hv : vList0.cells = vList0.cells := rfl
  generalize vList0 = L0 at *
  generalize hnG : gFam 1 (fun _ => [.i .i64 1, L0]) (fun _ => h0) (fun _ => .tup [.p (some (4102, 0, 0)), .i .i64 0]) (fun _ => S 0) = nG at *
  generalize hqG : gFam 102 qA qG qV qS = qG' at *
  generalize hrG : gFam 1 (fun _ => [.p (some (4102, 0, 0)), .i .i64 1, .i .i64 8]) (fun _ => T1) (fun _ => .i .i64 0) (fun _ => T2) = rG' at *
  generalize getB = gB at *
  refine runs_of_wpF (af := Go.Proofs.YtpjoadjbclffpaaGreat.LitFirst.l5) rfl (by kernel_rfl) ?_
  unfold wpF Go.Proofs.YtpjoadjbclffpaaGreat.LitFirst.l5
  refine ⟨by simp, ?_⟩
  simp only [↓STEP, SB, looked, behind, lookOk, AAct.kind, AOp.kind, wpRes, evRes, resV, AOp.ev, bin, binI, binS, shiftI, eqV, un, bound, boundO, fill, fillRows, aggOf, keyEq, findKey, putKey, V.cells, V.flat, byteOf, bytesOf, rdOf, H.wr, H.kOf, splice, isYl, ↓reduceIte, Nat.reduceEqDiff, Nat.reduceLeDiff, Nat.reduceLT, Nat.reduceAdd, Nat.reduceSub, Nat.reduceMul, Int.reduceLT, Int.reduceLE, Int.reduceEq, Int.reduceAdd, Int.reduceSub, Int.reduceMul, Int.reduceNeg, Int.reduceToNat, reduceCtorEq, x0, y0, x1, y1, x2, y2, List.getElem?_cons_zero, List.getElem?_cons_succ]
  refine wpA_loop_inv Loop ?_ (m := 100) ⟨0, rfl, ?_, ?_, rfl⟩
  · rintro m t h ⟨k, hk, t3, t1, rfl⟩
    by_cases hm : m = 0
    · subst hm
      obtain rfl : k = 100 := by omega
      have t3 : t.v 3 = .i .i64 100 := t3
      simp only [↓STEP, SB, looked, behind, lookOk, AAct.kind, AOp.kind, wpRes, evRes, resV, AOp.ev, bin, binI, binS, shiftI, eqV, un, bound, boundO, fill, fillRows, aggOf, keyEq, findKey, putKey, V.cells, V.flat, byteOf, bytesOf, rdOf, H.wr, H.kOf, splice, isYl, ↓reduceIte, Nat.reduceEqDiff, Nat.reduceLeDiff, Nat.reduceLT, Nat.reduceAdd, Nat.reduceSub, Nat.reduceMul, Int.reduceLT, Int.reduceLE, Int.reduceEq, Int.reduceAdd, Int.reduceSub, Int.reduceMul, Int.reduceNeg, Int.reduceToNat, reduceCtorEq, t3, t1, x0, y0, x3, y3, x4, y5, x7, y7, y6, List.getElem?_cons_zero, List.getElem?_cons_succ]
    · have hk1 : k < 100 := by omega
      have c1 : ((k : Int)) < 100 := by omega
      have z4 := y4 k hk1
      have w1 : IntKind.wrap .i64 (2 * (k : Int)) = 2 * k := wrap_i64 (by omega) (by omega)
      have w2 : IntKind.wrap .i64 (2 * (k : Int) + 1) = 2 * k + 1 := wrap_i64 (by omega) (by omega)
      have w3 : IntKind.wrap .i64 ((k : Int) + 1) = k + 1 := wrap_i64 (by omega) (by omega)
      have w4 : (Int.ofNat (2 * k + 1)) = 2 * (k : Int) + 1 := by show ((2 * k + 1 : Nat) : Int) = _; omega
      simp only [↓STEP, SB, looked, behind, lookOk, AAct.kind, AOp.kind, wpRes, evRes, resV, AOp.ev, bin, binI, binS, shiftI, eqV, un, bound, boundO, fill, fillRows, aggOf, keyEq, findKey, putKey, V.cells, V.flat, byteOf, bytesOf, rdOf, H.wr, H.kOf, splice, isYl, ↓reduceIte, Nat.reduceEqDiff, Nat.reduceLeDiff, Nat.reduceLT, Nat.reduceAdd, Nat.reduceSub, Nat.reduceMul, Int.reduceLT, Int.reduceLE, Int.reduceEq, Int.reduceAdd, Int.reduceSub, Int.reduceMul, Int.reduceNeg, Int.reduceToNat, reduceCtorEq, t3, t1, c1, x3, y3, x4, z4, w1, w2, w3, w4, List.getElem?_cons_zero, List.getElem?_cons_succ]
      refine ⟨m - 1, by omega, k + 1, by omega, ?_, ?_, rfl⟩
      · simp only [↓STEP, SB, looked, behind, lookOk, AAct.kind, AOp.kind, wpRes, evRes, resV, AOp.ev, bin, binI, binS, shiftI, eqV, un, bound, boundO, fill, fillRows, aggOf, keyEq, findKey, putKey, V.cells, V.flat, byteOf, bytesOf, rdOf, H.wr, H.kOf, splice, isYl, ↓reduceIte, Nat.reduceEqDiff, Nat.reduceLeDiff, Nat.reduceLT, Nat.reduceAdd, Nat.reduceSub, Nat.reduceMul, Int.reduceLT, Int.reduceLE, Int.reduceEq, Int.reduceAdd, Int.reduceSub, Int.reduceMul, Int.reduceNeg, Int.reduceToNat, reduceCtorEq]; congr 1
      · simp only [↓STEP, SB, looked, behind, lookOk, AAct.kind, AOp.kind, wpRes, evRes, resV, AOp.ev, bin, binI, binS, shiftI, eqV, un, bound, boundO, fill, fillRows, aggOf, keyEq, findKey, putKey, V.cells, V.flat, byteOf, bytesOf, rdOf, H.wr, H.kOf, splice, isYl, ↓reduceIte, Nat.reduceEqDiff, Nat.reduceLeDiff, Nat.reduceLT, Nat.reduceAdd, Nat.reduceSub, Nat.reduceMul, Int.reduceLT, Int.reduceLE, Int.reduceEq, Int.reduceAdd, Int.reduceSub, Int.reduceMul, Int.reduceNeg, Int.reduceToNat, reduceCtorEq, t1]
  · simp only [↓STEP, SB, looked, behind, lookOk, AAct.kind, AOp.kind, wpRes, evRes, resV, AOp.ev, bin, binI, binS, shiftI, eqV, un, bound, boundO, fill, fillRows, aggOf, keyEq, findKey, putKey, V.cells, V.flat, byteOf, bytesOf, rdOf, H.wr, H.kOf, splice, isYl, ↓reduceIte, Nat.reduceEqDiff, Nat.reduceLeDiff, Nat.reduceLT, Nat.reduceAdd, Nat.reduceSub, Nat.reduceMul, Int.reduceLT, Int.reduceLE, Int.reduceEq, Int.reduceAdd, Int.reduceSub, Int.reduceMul, Int.reduceNeg, Int.reduceToNat, reduceCtorEq]
  · simp only [↓STEP, SB, looked, behind, lookOk, AAct.kind, AOp.kind, wpRes, evRes, resV, AOp.ev, bin, binI, binS, shiftI, eqV, un, bound, boundO, fill, fillRows, aggOf, keyEq, findKey, putKey, V.cells, V.flat, byteOf, bytesOf, rdOf, H.wr, H.kOf, splice, isYl, ↓reduceIte, Nat.reduceEqDiff, Nat.reduceLeDiff, Nat.reduceLT, Nat.reduceAdd, Nat.reduceSub, Nat.reduceMul, Int.reduceLT, Int.reduceLE, Int.reduceEq, Int.reduceAdd, Int.reduceSub, Int.reduceMul, Int.reduceNeg, Int.reduceToNat, reduceCtorEq, List.getElem?_cons_zero, List.getElem?_cons_succ]
theorem firstWalk (w : Go.World) : Go.Calls Tryz.prog 5 #[] w fun E w' => E = .returned (.bool true) ∧ Go.RowKit.Below w.heap.size w w' := by
  obtain ⟨n, v, h', hr, rfl⟩ := firstRuns
  have hr' : Am.runN pr n (.fn 5) [] ⟨4096, .e⟩ = some (.b true, h') := hr
  exact closed_callsOk ok rfl (by rw [hr']; rfl) w
end Go.Proofs.YtpjoadjbclffpaaGreat.FirstSeat
