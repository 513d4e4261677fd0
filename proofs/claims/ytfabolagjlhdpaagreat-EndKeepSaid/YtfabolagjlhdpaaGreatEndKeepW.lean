/- The law EndKeep at its seat: the walk over the law itself; no condition. -/
import Derived.Test.YtfabolagjlhdpaaGreatEndKeepS
namespace Go.Proofs.YtfabolagjlhdpaaGreat.EndK
open Go (IntKind)
open Am
set_option linter.all false
set_option maxRecDepth 100000
set_option maxHeartbeats 8000000
theorem closed_walk {pr : Prog} {e : Nat} {c : Nat → V} {why : Int} {h : H} (he : h.get e = some (.rows 23 [eRow c] false)) (c17 : c 17 = .i .i64 why) : wpF pr c_endpoint_End_Closed [.p (some (e, 0, 0))] h (fun v g => v = .i .i64 why ∧ g = h) := by
  unfold eRow at he
  unfold wpF c_endpoint_End_Closed
  refine ⟨by simp, ?_⟩
  simp only [↓STEP, SB, looked, behind, lookOk, AAct.kind, AOp.kind, wpRes, evRes, resV, AOp.ev, bin, binI, binS, shiftI, eqV, un, bound, boundO, fill, fillRows, aggOf, keyEq, findKey, putKey, V.cells, V.flat, byteOf, bytesOf, rdOf, H.wr, H.kOf, splice, isYl, ↓reduceIte, Nat.reduceEqDiff, Nat.reduceLeDiff, Nat.reduceLT, Nat.reduceAdd, Nat.reduceSub, Nat.reduceMul, Int.reduceLT, Int.reduceLE, Int.reduceEq, Int.reduceAdd, Int.reduceSub, Int.reduceMul, Int.reduceNeg, Int.reduceToNat, reduceCtorEq, he, c17]
theorem nH_e {base ob tb role A B T now} : (nH base ob tb role A B T now).get (base.nx + 16) = some (.rows 23 [eRow (endC role own0 T now base.nx true)] false) := UH_e (cB_len' role)
theorem nH_t {base ob tb role A B T now} : (nH base ob tb role A B T now).get (base.nx + 15) = some (.rows 12 [tRow A B] false) := UH_t (cB_len' role)
theorem nH_low {base ob tb role A B T now} {i : Nat} (hi : i < base.nx) : (nH base ob tb role A B T now).get i = base.get i := UH_base (cB_len' role) hi
theorem base_inj {b c : H} (hb : Base b) (hc : Base c) (hn : b.nx = c.nx) (hg : b.nx = 4097 → b.get 4096 = c.get 4096) : b = c := by
  rcases hb with rfl | rfl | ⟨z, rfl⟩ <;> rcases hc with rfl | rfl | ⟨y, rfl⟩
  · rfl
  · cases hn
  · cases hn
  · cases hn
  · rfl
  · have := hg rfl
    rw [H.get_push, if_pos (show 4096 = h0.nx from rfl)] at this; cases this
  · cases hn
  · have := hg rfl
    rw [H.get_push, if_pos (show 4096 = h0.nx from rfl)] at this; cases this
  · have := hg rfl
    rw [H.get_push, H.get_push, if_pos (show 4096 = h0.nx from rfl), if_pos (show 4096 = h0.nx from rfl)] at this
    cases this; rfl
theorem take_inv {base : H} (hb : Base base) {ob tb : Blk} {role : Int} {A : Nat → Int} {B : Nat → Bool} {T : Nat → Int} {now : Int} {v : V} {h' : H} (hR : TakeR [.p (some (base.nx + 16, 0, 0)), .i .i64 1048576] (nH base ob tb role A B T now) v h') :
    ∃ ob2 tb2 A2 B2 T2, h' = jH cT base ob2 tb2 role A2 B2 T2 now ∧ T2 4 = T 4 ∧ ∀ i, i < 6 → A2 i = A i ∧ B2 i = B i := by
  obtain ⟨base2, ob2, tb2, r2, A2, B2, T2, now2, hb2, hr2, hy, hEq, _, rfl⟩ := hR
  simp only [List.cons.injEq, V.p.injEq, Option.some.injEq, Prod.mk.injEq, true_and, and_true] at hy
  have hbn : base.nx = base2.nx := by omega
  have hbb : base = base2 := base_inj hb hb2 hbn fun h4 => by
    have g1 := nH_low (base := base) (ob := ob) (tb := tb) (role := role) (A := A) (B := B) (T := T) (now := now) (i := 4096) (by omega)
    rw [hEq, nH_low (by omega)] at g1
    exact g1.symm
  subst hbb
  have e1 := nH_e (base := base) (ob := ob) (tb := tb) (role := role) (A := A) (B := B) (T := T) (now := now)
  have t1 := nH_t (base := base) (ob := ob) (tb := tb) (role := role) (A := A) (B := B) (T := T) (now := now)
  rw [hEq] at e1 t1
  have r := row_at e1 nH_e
  have q0 : V.i .i64 role = V.i .i64 r2 := r 0 (by omega)
  have q12 : V.i .i64 now = V.i .i64 now2 := r 12 (by omega)
  have q10 : V.i .i64 (T 4) = V.i .i64 (T2 4) := r 10 (by omega)
  rw [nH_t] at t1
  simp only [Option.some.injEq, Blk.rows.injEq, List.cons.injEq, and_true, true_and] at t1
  cases q0; cases q12
  injection q10 with _ q10
  exact ⟨ob2, tb2, A2, B2, T2, rfl, q10.symm, tRow_inj t1⟩
theorem new_ab {a b : Int} (ha : 1 ≤ a) (ha2 : a ≤ 1000) : ∀ i, i < 6 → (newA (tOf 0 0 a b 0) i = if i = 3 then a else 0) ∧ newB (tOf 0 0 a b 0) i = decide (i = 3) := by
  intro i hi
  have m1 : min a 1099511627776 = a := by omega
  have h3 : (0 : Int) < a := by omega
  unfold newA armA newB armB
  simp only [tOf]
  simp [h3, setF, m1]
theorem closed_st {base : H} {z : Blk} {role a b asked now : Int} {h : H} (hS : St base z role a b asked now h) : ∃ c, h.get (base.nx + 16) = some (.rows 23 [eRow c] false) ∧ c 17 = .i .i64 0 := by
  obtain ⟨p, ob, tb, A, B, T, rfl, _⟩ := hS
  exact ⟨_, jH_e, rfl⟩
theorem asked_le {base : H} {z : Blk} {role a b asked now : Int} {h : H} (hS : St base z role a b asked now h) (n1 : now ≤ 1073741824) : asked ≤ 1073741824 := by
  obtain ⟨p, ob, tb, A, B, T, rfl, _, ⟨_, rfl, _⟩ | ⟨_, _, q, _⟩⟩ := hS <;> omega
/-- What holds as the loop goes round. -/
def KI (base : H) (role a b : Int) (l : List Int) (sl : V) (m : Nat) (t : Tm) (h : H) : Prop :=
  ∃ i now asked, i + m = l.length ∧ t.v 14 = .i .i64 (i : Nat) ∧ t.v 12 = .i .i64 now ∧ t.v 13 = .i .i64 asked ∧ t.v 1 = .i .i64 a ∧ t.v 2 = .i .i64 b ∧ t.v 3 = sl ∧ t.v 10 = .p (some (base.nx + 16, 0, 0)) ∧ t.v 9 = .b true ∧ 0 ≤ now ∧ now ≤ 1073741824 ∧
    ((l = [] ∧ (∃ x y z, sl = .sl x 0 y z) ∧ asked = -1 ∧ ∃ ob tb A B T, h = jH cT base ob tb role A B T now) ∨
     (∃ z ro, base = h0.push z ∧ z = .rows 1 (l.map fun n => [.i .i64 n]) ro ∧ sl = .sl (some (4096, 0)) l.length l.length false ∧ St base z role a b asked now h))
theorem keep_walk (role a b : Int) (sl : V) (base : H) (hb : Base base) (l : List Int) (hs : (l = [] ∧ ∃ x y z, sl = .sl x 0 y z) ∨ ∃ z ro, base = h0.push z ∧ z = .rows 1 (l.map fun n => [.i .i64 n]) ro ∧ sl = .sl (some (4096, 0)) l.length l.length false) :
    Runs prU (.fn 5) [.i .i64 role, .i .i64 a, .i .i64 b, sl] base (fun v _ => v = .b true) := by
  have x0 := @wpCall_ext prU 6 _ rfl
  have y0 : ∀ h, xConst (.b true) [] h = some (.b true, h) := fun h => rfl
  have x1 := @wpCall_ext prU 8 _ rfl
  have y1 : ∀ h, xConst vList0 [] h = some (vList0, h) := fun h => rfl
  have x2 := @wpCall_ext prU 7 _ rfl
  have x3 := @wpCall_ext prU 9 _ rfl
  have x4 := @wpCall_ext prU 16 _ rfl
  have hv : vList0 = ownV own0 := rfl
  refine runs_of_wpF (af := Go.Proofs.YtfabolagjlhdpaaGreat.LitEnd.l5) rfl (by kernel_rfl) ?_
  unfold wpF Go.Proofs.YtfabolagjlhdpaaGreat.LitEnd.l5
  refine ⟨by simp, ?_⟩
  by_cases a1 : a < 1
  · simp only [↓STEP, SB, looked, behind, lookOk, AAct.kind, AOp.kind, wpRes, evRes, resV, AOp.ev, bin, binI, binS, shiftI, eqV, un, bound, boundO, fill, fillRows, aggOf, keyEq, findKey, putKey, V.cells, V.flat, byteOf, bytesOf, rdOf, H.wr, H.kOf, splice, isYl, ↓reduceIte, Nat.reduceEqDiff, Nat.reduceLeDiff, Nat.reduceLT, Nat.reduceAdd, Nat.reduceSub, Nat.reduceMul, Int.reduceLT, Int.reduceLE, Int.reduceEq, Int.reduceAdd, Int.reduceSub, Int.reduceMul, Int.reduceNeg, Int.reduceToNat, reduceCtorEq, x0, y0, a1]
  by_cases a2 : a > 1000
  · simp only [↓STEP, SB, looked, behind, lookOk, AAct.kind, AOp.kind, wpRes, evRes, resV, AOp.ev, bin, binI, binS, shiftI, eqV, un, bound, boundO, fill, fillRows, aggOf, keyEq, findKey, putKey, V.cells, V.flat, byteOf, bytesOf, rdOf, H.wr, H.kOf, splice, isYl, ↓reduceIte, Nat.reduceEqDiff, Nat.reduceLeDiff, Nat.reduceLT, Nat.reduceAdd, Nat.reduceSub, Nat.reduceMul, Int.reduceLT, Int.reduceLE, Int.reduceEq, Int.reduceAdd, Int.reduceSub, Int.reduceMul, Int.reduceNeg, Int.reduceToNat, reduceCtorEq, x0, y0, a1, a2]
  by_cases b1 : b < 1
  · simp only [↓STEP, SB, looked, behind, lookOk, AAct.kind, AOp.kind, wpRes, evRes, resV, AOp.ev, bin, binI, binS, shiftI, eqV, un, bound, boundO, fill, fillRows, aggOf, keyEq, findKey, putKey, V.cells, V.flat, byteOf, bytesOf, rdOf, H.wr, H.kOf, splice, isYl, ↓reduceIte, Nat.reduceEqDiff, Nat.reduceLeDiff, Nat.reduceLT, Nat.reduceAdd, Nat.reduceSub, Nat.reduceMul, Int.reduceLT, Int.reduceLE, Int.reduceEq, Int.reduceAdd, Int.reduceSub, Int.reduceMul, Int.reduceNeg, Int.reduceToNat, reduceCtorEq, x0, y0, a1, a2, b1]
  by_cases b2 : b > 1000
  · simp only [↓STEP, SB, looked, behind, lookOk, AAct.kind, AOp.kind, wpRes, evRes, resV, AOp.ev, bin, binI, binS, shiftI, eqV, un, bound, boundO, fill, fillRows, aggOf, keyEq, findKey, putKey, V.cells, V.flat, byteOf, bytesOf, rdOf, H.wr, H.kOf, splice, isYl, ↓reduceIte, Nat.reduceEqDiff, Nat.reduceLeDiff, Nat.reduceLT, Nat.reduceAdd, Nat.reduceSub, Nat.reduceMul, Int.reduceLT, Int.reduceLE, Int.reduceEq, Int.reduceAdd, Int.reduceSub, Int.reduceMul, Int.reduceNeg, Int.reduceToNat, reduceCtorEq, x0, y0, a1, a2, b1, b2]
  have hok : (timeOk 0 && timeOk 0 && timeOk a && timeOk b && timeOk 0) = true := by
    simp only [timeOk, Bool.and_eq_true, decide_eq_true_iff]; omega
  by_cases hr : role = 1 ∨ role = 2
  · have y2 : ∀ h, gNew own0 cB [.i .i64 role, .i .i64 0, vList0, .agg [.i .i64 0, .i .i64 0, .i .i64 a, .i .i64 b, .i .i64 0], .i .i64 0] h = some (.tup [.p (some (h.nx + 16, 0, 0)), .i .i64 0], nH h (ownB own0) (timesB (tOf 0 0 a b 0)) role (newA (tOf 0 0 a b 0)) (newB (tOf 0 0 a b 0)) (tOf 0 0 a b 0) 0) := fun h => by
      unfold gNew
      simp only
      rw [if_pos hv, if_pos hok, if_pos hr]
    obtain ⟨v2, h2, y4, hT⟩ := gRl_some (R := TakeR) (v := .sl (some (base.nx + 18, 0)) (qOf role) (qOf role) false) (h' := jH cT base (ownB own0) (timesB (tOf 0 0 a b 0)) role (newA (tOf 0 0 a b 0)) (newB (tOf 0 0 a b 0)) (tOf 0 0 a b 0) 0) (ys := [.p (some (base.nx + 16, 0, 0)), .i .i64 1048576]) (h := nH base (ownB own0) (timesB (tOf 0 0 a b 0)) role (newA (tOf 0 0 a b 0)) (newB (tOf 0 0 a b 0)) (tOf 0 0 a b 0) 0) ⟨base, _, _, role, _, _, _, _, hb, hr, rfl, rfl, rfl, rfl⟩
    obtain ⟨ob2, tb2, A2, B2, T2, hh2, hT4, hAB⟩ := take_inv hb hT
    clear hT
    have y2 := y2 base
    generalize nH _ _ _ _ _ _ _ _ = g2 at y2 y4
    simp only [↓STEP, SB, looked, behind, lookOk, AAct.kind, AOp.kind, wpRes, evRes, resV, AOp.ev, bin, binI, binS, shiftI, eqV, un, bound, boundO, fill, fillRows, aggOf, keyEq, findKey, putKey, V.cells, V.flat, byteOf, bytesOf, rdOf, H.wr, H.kOf, splice, isYl, ↓reduceIte, Nat.reduceEqDiff, Nat.reduceLeDiff, Nat.reduceLT, Nat.reduceAdd, Nat.reduceSub, Nat.reduceMul, Int.reduceLT, Int.reduceLE, Int.reduceEq, Int.reduceAdd, Int.reduceSub, Int.reduceMul, Int.reduceNeg, Int.reduceToNat, reduceCtorEq, x0, y0, x1, y1, a1, a2, b1, b2, x2, y2, x4, y4, List.getElem?_cons_zero, List.getElem?_cons_succ]
    refine wpA_loop_inv (KI base role a b l sl) ?_ (m := l.length) ?_
    · rintro m t h ⟨i, now, asked, him, t14, t12, t13, t1, t2, t3, t10, t9, n0, n1, hS⟩
      rcases hS with ⟨rfl, ⟨x, y, z, rfl⟩, rfl, ob, tb, A, B, T, rfl⟩ | ⟨z, ro, hz, hzr, rfl, hS⟩
      · obtain rfl : i = 0 := by simp at him; omega
        simp only [↓STEP, SB, looked, behind, lookOk, AAct.kind, AOp.kind, wpRes, evRes, resV, AOp.ev, bin, binI, binS, shiftI, eqV, un, bound, boundO, fill, fillRows, aggOf, keyEq, findKey, putKey, V.cells, V.flat, byteOf, bytesOf, rdOf, H.wr, H.kOf, splice, isYl, ↓reduceIte, Nat.reduceEqDiff, Nat.reduceLeDiff, Nat.reduceLT, Nat.reduceAdd, Nat.reduceSub, Nat.reduceMul, Int.reduceLT, Int.reduceLE, Int.reduceEq, Int.reduceAdd, Int.reduceSub, Int.reduceMul, Int.reduceNeg, Int.reduceToNat, reduceCtorEq, t14, t12, t13, t1, t2, t3, t10, t9]
        refine Runs.mono (c := .fn 17) («as» := [.p (some (base.nx + 16, 0, 0))] ++ []) (waitT base ob tb role A B T now hb hr) ?_
        rintro v5 g5 rfl
        simp only [↓STEP, SB, looked, behind, lookOk, AAct.kind, AOp.kind, wpRes, evRes, resV, AOp.ev, bin, binI, binS, shiftI, eqV, un, bound, boundO, fill, fillRows, aggOf, keyEq, findKey, putKey, V.cells, V.flat, byteOf, bytesOf, rdOf, H.wr, H.kOf, splice, isYl, ↓reduceIte, Nat.reduceEqDiff, Nat.reduceLeDiff, Nat.reduceLT, Nat.reduceAdd, Nat.reduceSub, Nat.reduceMul, Int.reduceLT, Int.reduceLE, Int.reduceEq, Int.reduceAdd, Int.reduceSub, Int.reduceMul, Int.reduceNeg, Int.reduceToNat, reduceCtorEq]
      by_cases hi : i < l.length ∧ i < 30
      · have hi1 : (i : Int) < (l.length : Int) := by omega
        have hi2 : (i : Int) < 30 := by omega
        have hi3 : (0 : Int) ≤ (i : Int) := by omega
        have hx : (l.map fun n => [V.i .i64 n])[i]? = some [V.i .i64 (l[i]'hi.1)] := by rw [List.getElem?_map, List.getElem?_eq_getElem hi.1]; rfl
        generalize l[i]'hi.1 = x at hx
        have g4 : h.get 4096 = some (.rows 1 (l.map fun n => [.i .i64 n]) ro) := by
          obtain ⟨p, ob, tb, A, B, T, rfl, _⟩ := hS
          rw [jH_low (by rw [hz]; show 4096 < 4096 + 1; omega), hz, H.get_push, if_pos (show 4096 = h0.nx from rfl), hzr]
        have wi : IntKind.wrap .i64 ((i : Int) + 1) = i + 1 := wrap_i64 (by omega) (by omega)
        by_cases p1 : x < now
        · simp only [↓STEP, SB, looked, behind, lookOk, AAct.kind, AOp.kind, wpRes, evRes, resV, AOp.ev, bin, binI, binS, shiftI, eqV, un, bound, boundO, fill, fillRows, aggOf, keyEq, findKey, putKey, V.cells, V.flat, byteOf, bytesOf, rdOf, H.wr, H.kOf, splice, isYl, ↓reduceIte, Nat.reduceEqDiff, Nat.reduceLeDiff, Nat.reduceLT, Nat.reduceAdd, Nat.reduceSub, Nat.reduceMul, Int.reduceLT, Int.reduceLE, Int.reduceEq, Int.reduceAdd, Int.reduceSub, Int.reduceMul, Int.reduceNeg, Int.reduceToNat, reduceCtorEq, t14, t12, t13, t1, t2, t3, t10, t9, hi1, hi2, hi3, g4, hx, p1, wi]
          refine ⟨m - 1, by omega, i + 1, now, asked, by omega, ?_, ?_, ?_, ?_, ?_, ?_, ?_, ?_, by omega, by omega, .inr ⟨z, ro, hz, hzr, rfl, hS⟩⟩
          all_goals (simp only [↓STEP, SB, looked, behind, lookOk, AAct.kind, AOp.kind, wpRes, evRes, resV, AOp.ev, bin, binI, binS, shiftI, eqV, un, bound, boundO, fill, fillRows, aggOf, keyEq, findKey, putKey, V.cells, V.flat, byteOf, bytesOf, rdOf, H.wr, H.kOf, splice, isYl, ↓reduceIte, Nat.reduceEqDiff, Nat.reduceLeDiff, Nat.reduceLT, Nat.reduceAdd, Nat.reduceSub, Nat.reduceMul, Int.reduceLT, Int.reduceLE, Int.reduceEq, Int.reduceAdd, Int.reduceSub, Int.reduceMul, Int.reduceNeg, Int.reduceToNat, reduceCtorEq, t14, t12, t13, t1, t2, t3, t10, t9, wi] <;> rfl)
        by_cases p2 : x > 1073741824
        · simp only [↓STEP, SB, looked, behind, lookOk, AAct.kind, AOp.kind, wpRes, evRes, resV, AOp.ev, bin, binI, binS, shiftI, eqV, un, bound, boundO, fill, fillRows, aggOf, keyEq, findKey, putKey, V.cells, V.flat, byteOf, bytesOf, rdOf, H.wr, H.kOf, splice, isYl, ↓reduceIte, Nat.reduceEqDiff, Nat.reduceLeDiff, Nat.reduceLT, Nat.reduceAdd, Nat.reduceSub, Nat.reduceMul, Int.reduceLT, Int.reduceLE, Int.reduceEq, Int.reduceAdd, Int.reduceSub, Int.reduceMul, Int.reduceNeg, Int.reduceToNat, reduceCtorEq, t14, t12, t13, t1, t2, t3, t10, t9, hi1, hi2, hi3, g4, hx, p1, p2, wi]
          refine ⟨m - 1, by omega, i + 1, now, asked, by omega, ?_, ?_, ?_, ?_, ?_, ?_, ?_, ?_, by omega, by omega, .inr ⟨z, ro, hz, hzr, rfl, hS⟩⟩
          all_goals (simp only [↓STEP, SB, looked, behind, lookOk, AAct.kind, AOp.kind, wpRes, evRes, resV, AOp.ev, bin, binI, binS, shiftI, eqV, un, bound, boundO, fill, fillRows, aggOf, keyEq, findKey, putKey, V.cells, V.flat, byteOf, bytesOf, rdOf, H.wr, H.kOf, splice, isYl, ↓reduceIte, Nat.reduceEqDiff, Nat.reduceLeDiff, Nat.reduceLT, Nat.reduceAdd, Nat.reduceSub, Nat.reduceMul, Int.reduceLT, Int.reduceLE, Int.reduceEq, Int.reduceAdd, Int.reduceSub, Int.reduceMul, Int.reduceNeg, Int.reduceToNat, reduceCtorEq, t14, t12, t13, t1, t2, t3, t10, t9, wi] <;> rfl)
        obtain ⟨v', h', hg, hO⟩ := tick_st (x := x) hz hr (by omega) (by omega) (by omega) (by omega) n0 (by omega) (by omega) hS
        rcases hO with ⟨rfl, q1, hS'⟩ | ⟨rfl, q1, hS'⟩ | ⟨q0, q1, hS'⟩ | ⟨q0, q1, c, hc, c17⟩
        · have q2 : ¬ x ≥ a := by omega
          obtain ⟨c, hc, c17⟩ := closed_st hS'
          simp only [↓STEP, SB, looked, behind, lookOk, AAct.kind, AOp.kind, wpRes, evRes, resV, AOp.ev, bin, binI, binS, shiftI, eqV, un, bound, boundO, fill, fillRows, aggOf, keyEq, findKey, putKey, V.cells, V.flat, byteOf, bytesOf, rdOf, H.wr, H.kOf, splice, isYl, ↓reduceIte, Nat.reduceEqDiff, Nat.reduceLeDiff, Nat.reduceLT, Nat.reduceAdd, Nat.reduceSub, Nat.reduceMul, Int.reduceLT, Int.reduceLE, Int.reduceEq, Int.reduceAdd, Int.reduceSub, Int.reduceMul, Int.reduceNeg, Int.reduceToNat, reduceCtorEq, t14, t12, t13, t1, t2, t3, t10, t9, hi1, hi2, hi3, g4, hx, p1, p2, wi, x3, hg, q2]
          refine Runs.mono (c := .fn 10) («as» := [.p (some (base.nx + 16, 0, 0))] ++ []) (runs_of_wpF (pr := prU) (af := Am.c_endpoint_End_Closed) rfl (by kernel_rfl) (closed_walk hc c17)) ?_
          rintro v5 g5 ⟨rfl, rfl⟩
          simp only [↓STEP, SB, looked, behind, lookOk, AAct.kind, AOp.kind, wpRes, evRes, resV, AOp.ev, bin, binI, binS, shiftI, eqV, un, bound, boundO, fill, fillRows, aggOf, keyEq, findKey, putKey, V.cells, V.flat, byteOf, bytesOf, rdOf, H.wr, H.kOf, splice, isYl, ↓reduceIte, Nat.reduceEqDiff, Nat.reduceLeDiff, Nat.reduceLT, Nat.reduceAdd, Nat.reduceSub, Nat.reduceMul, Int.reduceLT, Int.reduceLE, Int.reduceEq, Int.reduceAdd, Int.reduceSub, Int.reduceMul, Int.reduceNeg, Int.reduceToNat, reduceCtorEq, wi, t14]
          refine ⟨m - 1, by omega, i + 1, x, -1, by omega, ?_, ?_, ?_, ?_, ?_, ?_, ?_, ?_, by omega, by omega, .inr ⟨z, ro, hz, hzr, rfl, hS'⟩⟩
          all_goals (simp only [↓STEP, SB, looked, behind, lookOk, AAct.kind, AOp.kind, wpRes, evRes, resV, AOp.ev, bin, binI, binS, shiftI, eqV, un, bound, boundO, fill, fillRows, aggOf, keyEq, findKey, putKey, V.cells, V.flat, byteOf, bytesOf, rdOf, H.wr, H.kOf, splice, isYl, ↓reduceIte, Nat.reduceEqDiff, Nat.reduceLeDiff, Nat.reduceLT, Nat.reduceAdd, Nat.reduceSub, Nat.reduceMul, Int.reduceLT, Int.reduceLE, Int.reduceEq, Int.reduceAdd, Int.reduceSub, Int.reduceMul, Int.reduceNeg, Int.reduceToNat, reduceCtorEq, t14, t12, t13, t1, t2, t3, t10, t9, wi] <;> rfl)
        · have q2 : x ≥ a := q1
          obtain ⟨c, hc, c17⟩ := closed_st hS'
          simp only [↓STEP, SB, looked, behind, lookOk, AAct.kind, AOp.kind, wpRes, evRes, resV, AOp.ev, bin, binI, binS, shiftI, eqV, un, bound, boundO, fill, fillRows, aggOf, keyEq, findKey, putKey, V.cells, V.flat, byteOf, bytesOf, rdOf, H.wr, H.kOf, splice, isYl, ↓reduceIte, Nat.reduceEqDiff, Nat.reduceLeDiff, Nat.reduceLT, Nat.reduceAdd, Nat.reduceSub, Nat.reduceMul, Int.reduceLT, Int.reduceLE, Int.reduceEq, Int.reduceAdd, Int.reduceSub, Int.reduceMul, Int.reduceNeg, Int.reduceToNat, reduceCtorEq, t14, t12, t13, t1, t2, t3, t10, t9, hi1, hi2, hi3, g4, hx, p1, p2, wi, x3, hg, q2]
          refine Runs.mono (c := .fn 10) («as» := [.p (some (base.nx + 16, 0, 0))] ++ []) (runs_of_wpF (pr := prU) (af := Am.c_endpoint_End_Closed) rfl (by kernel_rfl) (closed_walk hc c17)) ?_
          rintro v5 g5 ⟨rfl, rfl⟩
          simp only [↓STEP, SB, looked, behind, lookOk, AAct.kind, AOp.kind, wpRes, evRes, resV, AOp.ev, bin, binI, binS, shiftI, eqV, un, bound, boundO, fill, fillRows, aggOf, keyEq, findKey, putKey, V.cells, V.flat, byteOf, bytesOf, rdOf, H.wr, H.kOf, splice, isYl, ↓reduceIte, Nat.reduceEqDiff, Nat.reduceLeDiff, Nat.reduceLT, Nat.reduceAdd, Nat.reduceSub, Nat.reduceMul, Int.reduceLT, Int.reduceLE, Int.reduceEq, Int.reduceAdd, Int.reduceSub, Int.reduceMul, Int.reduceNeg, Int.reduceToNat, reduceCtorEq, wi, t14]
          refine ⟨m - 1, by omega, i + 1, x, x, by omega, ?_, ?_, ?_, ?_, ?_, ?_, ?_, ?_, by omega, by omega, .inr ⟨z, ro, hz, hzr, rfl, hS'⟩⟩
          all_goals (simp only [↓STEP, SB, looked, behind, lookOk, AAct.kind, AOp.kind, wpRes, evRes, resV, AOp.ev, bin, binI, binS, shiftI, eqV, un, bound, boundO, fill, fillRows, aggOf, keyEq, findKey, putKey, V.cells, V.flat, byteOf, bytesOf, rdOf, H.wr, H.kOf, splice, isYl, ↓reduceIte, Nat.reduceEqDiff, Nat.reduceLeDiff, Nat.reduceLT, Nat.reduceAdd, Nat.reduceSub, Nat.reduceMul, Int.reduceLT, Int.reduceLE, Int.reduceEq, Int.reduceAdd, Int.reduceSub, Int.reduceMul, Int.reduceNeg, Int.reduceToNat, reduceCtorEq, t14, t12, t13, t1, t2, t3, t10, t9, wi] <;> rfl)
        · have q3 : ¬ asked < 0 := by omega
          have q4 : asked ≥ 0 := q0
          have q5 : asked ≤ 1073741824 := asked_le hS n1
          have w2 : IntKind.wrap .i64 (asked + b) = asked + b := wrap_i64 (by omega) (by omega)
          have q6 : ¬ x ≥ asked + b := by omega
          obtain ⟨c, hc, c17⟩ := closed_st hS'
          simp only [↓STEP, SB, looked, behind, lookOk, AAct.kind, AOp.kind, wpRes, evRes, resV, AOp.ev, bin, binI, binS, shiftI, eqV, un, bound, boundO, fill, fillRows, aggOf, keyEq, findKey, putKey, V.cells, V.flat, byteOf, bytesOf, rdOf, H.wr, H.kOf, splice, isYl, ↓reduceIte, Nat.reduceEqDiff, Nat.reduceLeDiff, Nat.reduceLT, Nat.reduceAdd, Nat.reduceSub, Nat.reduceMul, Int.reduceLT, Int.reduceLE, Int.reduceEq, Int.reduceAdd, Int.reduceSub, Int.reduceMul, Int.reduceNeg, Int.reduceToNat, reduceCtorEq, t14, t12, t13, t1, t2, t3, t10, t9, hi1, hi2, hi3, g4, hx, p1, p2, wi, x3, hg, q3, q4, w2, q6]
          refine Runs.mono (c := .fn 10) («as» := [.p (some (base.nx + 16, 0, 0))] ++ []) (runs_of_wpF (pr := prU) (af := Am.c_endpoint_End_Closed) rfl (by kernel_rfl) (closed_walk hc c17)) ?_
          rintro v5 g5 ⟨rfl, rfl⟩
          simp only [↓STEP, SB, looked, behind, lookOk, AAct.kind, AOp.kind, wpRes, evRes, resV, AOp.ev, bin, binI, binS, shiftI, eqV, un, bound, boundO, fill, fillRows, aggOf, keyEq, findKey, putKey, V.cells, V.flat, byteOf, bytesOf, rdOf, H.wr, H.kOf, splice, isYl, ↓reduceIte, Nat.reduceEqDiff, Nat.reduceLeDiff, Nat.reduceLT, Nat.reduceAdd, Nat.reduceSub, Nat.reduceMul, Int.reduceLT, Int.reduceLE, Int.reduceEq, Int.reduceAdd, Int.reduceSub, Int.reduceMul, Int.reduceNeg, Int.reduceToNat, reduceCtorEq, wi, t14]
          refine ⟨m - 1, by omega, i + 1, x, asked, by omega, ?_, ?_, ?_, ?_, ?_, ?_, ?_, ?_, by omega, by omega, .inr ⟨z, ro, hz, hzr, rfl, hS'⟩⟩
          all_goals (simp only [↓STEP, SB, looked, behind, lookOk, AAct.kind, AOp.kind, wpRes, evRes, resV, AOp.ev, bin, binI, binS, shiftI, eqV, un, bound, boundO, fill, fillRows, aggOf, keyEq, findKey, putKey, V.cells, V.flat, byteOf, bytesOf, rdOf, H.wr, H.kOf, splice, isYl, ↓reduceIte, Nat.reduceEqDiff, Nat.reduceLeDiff, Nat.reduceLT, Nat.reduceAdd, Nat.reduceSub, Nat.reduceMul, Int.reduceLT, Int.reduceLE, Int.reduceEq, Int.reduceAdd, Int.reduceSub, Int.reduceMul, Int.reduceNeg, Int.reduceToNat, reduceCtorEq, t14, t12, t13, t1, t2, t3, t10, t9, wi] <;> rfl)
        · have q3 : ¬ asked < 0 := by omega
          have q4 : asked ≥ 0 := q0
          have q5 : asked ≤ 1073741824 := asked_le hS n1
          have w2 : IntKind.wrap .i64 (asked + b) = asked + b := wrap_i64 (by omega) (by omega)
          have q6 : x ≥ asked + b := q1
          simp only [↓STEP, SB, looked, behind, lookOk, AAct.kind, AOp.kind, wpRes, evRes, resV, AOp.ev, bin, binI, binS, shiftI, eqV, un, bound, boundO, fill, fillRows, aggOf, keyEq, findKey, putKey, V.cells, V.flat, byteOf, bytesOf, rdOf, H.wr, H.kOf, splice, isYl, ↓reduceIte, Nat.reduceEqDiff, Nat.reduceLeDiff, Nat.reduceLT, Nat.reduceAdd, Nat.reduceSub, Nat.reduceMul, Int.reduceLT, Int.reduceLE, Int.reduceEq, Int.reduceAdd, Int.reduceSub, Int.reduceMul, Int.reduceNeg, Int.reduceToNat, reduceCtorEq, t14, t12, t13, t1, t2, t3, t10, t9, hi1, hi2, hi3, g4, hx, p1, p2, wi, x3, hg, q3, q4, w2, q6]
          refine Runs.mono (c := .fn 10) («as» := [.p (some (base.nx + 16, 0, 0))] ++ []) (runs_of_wpF (pr := prU) (af := Am.c_endpoint_End_Closed) rfl (by kernel_rfl) (closed_walk hc c17)) ?_
          rintro v5 g5 ⟨rfl, rfl⟩
          simp only [↓STEP, SB, looked, behind, lookOk, AAct.kind, AOp.kind, wpRes, evRes, resV, AOp.ev, bin, binI, binS, shiftI, eqV, un, bound, boundO, fill, fillRows, aggOf, keyEq, findKey, putKey, V.cells, V.flat, byteOf, bytesOf, rdOf, H.wr, H.kOf, splice, isYl, ↓reduceIte, Nat.reduceEqDiff, Nat.reduceLeDiff, Nat.reduceLT, Nat.reduceAdd, Nat.reduceSub, Nat.reduceMul, Int.reduceLT, Int.reduceLE, Int.reduceEq, Int.reduceAdd, Int.reduceSub, Int.reduceMul, Int.reduceNeg, Int.reduceToNat, reduceCtorEq]
      · obtain ⟨p, ob, tb, A, B, T, rfl, _, ⟨rfl, rfl, _⟩ | ⟨rfl, q0, _⟩⟩ := hS
        · have W := waitT base ob tb role A B T now hb hr
          by_cases hi1 : i < l.length
          · have hi1' : (i : Int) < (l.length : Int) := by omega
            have hi2 : ¬ (i : Int) < 30 := by omega
            simp only [↓STEP, SB, looked, behind, lookOk, AAct.kind, AOp.kind, wpRes, evRes, resV, AOp.ev, bin, binI, binS, shiftI, eqV, un, bound, boundO, fill, fillRows, aggOf, keyEq, findKey, putKey, V.cells, V.flat, byteOf, bytesOf, rdOf, H.wr, H.kOf, splice, isYl, ↓reduceIte, Nat.reduceEqDiff, Nat.reduceLeDiff, Nat.reduceLT, Nat.reduceAdd, Nat.reduceSub, Nat.reduceMul, Int.reduceLT, Int.reduceLE, Int.reduceEq, Int.reduceAdd, Int.reduceSub, Int.reduceMul, Int.reduceNeg, Int.reduceToNat, reduceCtorEq, t14, t12, t13, t1, t2, t3, t10, t9, hi1', hi2]
            refine Runs.mono (c := .fn 17) («as» := [.p (some (base.nx + 16, 0, 0))] ++ []) W ?_
            rintro v5 g5 rfl
            simp only [↓STEP, SB, looked, behind, lookOk, AAct.kind, AOp.kind, wpRes, evRes, resV, AOp.ev, bin, binI, binS, shiftI, eqV, un, bound, boundO, fill, fillRows, aggOf, keyEq, findKey, putKey, V.cells, V.flat, byteOf, bytesOf, rdOf, H.wr, H.kOf, splice, isYl, ↓reduceIte, Nat.reduceEqDiff, Nat.reduceLeDiff, Nat.reduceLT, Nat.reduceAdd, Nat.reduceSub, Nat.reduceMul, Int.reduceLT, Int.reduceLE, Int.reduceEq, Int.reduceAdd, Int.reduceSub, Int.reduceMul, Int.reduceNeg, Int.reduceToNat, reduceCtorEq]
          · have hi1' : ¬ (i : Int) < (l.length : Int) := by omega
            simp only [↓STEP, SB, looked, behind, lookOk, AAct.kind, AOp.kind, wpRes, evRes, resV, AOp.ev, bin, binI, binS, shiftI, eqV, un, bound, boundO, fill, fillRows, aggOf, keyEq, findKey, putKey, V.cells, V.flat, byteOf, bytesOf, rdOf, H.wr, H.kOf, splice, isYl, ↓reduceIte, Nat.reduceEqDiff, Nat.reduceLeDiff, Nat.reduceLT, Nat.reduceAdd, Nat.reduceSub, Nat.reduceMul, Int.reduceLT, Int.reduceLE, Int.reduceEq, Int.reduceAdd, Int.reduceSub, Int.reduceMul, Int.reduceNeg, Int.reduceToNat, reduceCtorEq, t14, t12, t13, t1, t2, t3, t10, t9, hi1']
            refine Runs.mono (c := .fn 17) («as» := [.p (some (base.nx + 16, 0, 0))] ++ []) W ?_
            rintro v5 g5 rfl
            simp only [↓STEP, SB, looked, behind, lookOk, AAct.kind, AOp.kind, wpRes, evRes, resV, AOp.ev, bin, binI, binS, shiftI, eqV, un, bound, boundO, fill, fillRows, aggOf, keyEq, findKey, putKey, V.cells, V.flat, byteOf, bytesOf, rdOf, H.wr, H.kOf, splice, isYl, ↓reduceIte, Nat.reduceEqDiff, Nat.reduceLeDiff, Nat.reduceLT, Nat.reduceAdd, Nat.reduceSub, Nat.reduceMul, Int.reduceLT, Int.reduceLE, Int.reduceEq, Int.reduceAdd, Int.reduceSub, Int.reduceMul, Int.reduceNeg, Int.reduceToNat, reduceCtorEq]
        · have W := waitP base z hz ob tb role A B T now hr
          have q4 : asked ≥ 0 := q0
          by_cases hi1 : i < l.length
          · have hi1' : (i : Int) < (l.length : Int) := by omega
            have hi2 : ¬ (i : Int) < 30 := by omega
            simp only [↓STEP, SB, looked, behind, lookOk, AAct.kind, AOp.kind, wpRes, evRes, resV, AOp.ev, bin, binI, binS, shiftI, eqV, un, bound, boundO, fill, fillRows, aggOf, keyEq, findKey, putKey, V.cells, V.flat, byteOf, bytesOf, rdOf, H.wr, H.kOf, splice, isYl, ↓reduceIte, Nat.reduceEqDiff, Nat.reduceLeDiff, Nat.reduceLT, Nat.reduceAdd, Nat.reduceSub, Nat.reduceMul, Int.reduceLT, Int.reduceLE, Int.reduceEq, Int.reduceAdd, Int.reduceSub, Int.reduceMul, Int.reduceNeg, Int.reduceToNat, reduceCtorEq, t14, t12, t13, t1, t2, t3, t10, t9, hi1', hi2, q4]
            refine Runs.mono (c := .fn 17) («as» := [.p (some (base.nx + 16, 0, 0))] ++ []) W ?_
            rintro v5 g5 rfl
            simp only [↓STEP, SB, looked, behind, lookOk, AAct.kind, AOp.kind, wpRes, evRes, resV, AOp.ev, bin, binI, binS, shiftI, eqV, un, bound, boundO, fill, fillRows, aggOf, keyEq, findKey, putKey, V.cells, V.flat, byteOf, bytesOf, rdOf, H.wr, H.kOf, splice, isYl, ↓reduceIte, Nat.reduceEqDiff, Nat.reduceLeDiff, Nat.reduceLT, Nat.reduceAdd, Nat.reduceSub, Nat.reduceMul, Int.reduceLT, Int.reduceLE, Int.reduceEq, Int.reduceAdd, Int.reduceSub, Int.reduceMul, Int.reduceNeg, Int.reduceToNat, reduceCtorEq]
          · have hi1' : ¬ (i : Int) < (l.length : Int) := by omega
            simp only [↓STEP, SB, looked, behind, lookOk, AAct.kind, AOp.kind, wpRes, evRes, resV, AOp.ev, bin, binI, binS, shiftI, eqV, un, bound, boundO, fill, fillRows, aggOf, keyEq, findKey, putKey, V.cells, V.flat, byteOf, bytesOf, rdOf, H.wr, H.kOf, splice, isYl, ↓reduceIte, Nat.reduceEqDiff, Nat.reduceLeDiff, Nat.reduceLT, Nat.reduceAdd, Nat.reduceSub, Nat.reduceMul, Int.reduceLT, Int.reduceLE, Int.reduceEq, Int.reduceAdd, Int.reduceSub, Int.reduceMul, Int.reduceNeg, Int.reduceToNat, reduceCtorEq, t14, t12, t13, t1, t2, t3, t10, t9, hi1', q4]
            refine Runs.mono (c := .fn 17) («as» := [.p (some (base.nx + 16, 0, 0))] ++ []) W ?_
            rintro v5 g5 rfl
            simp only [↓STEP, SB, looked, behind, lookOk, AAct.kind, AOp.kind, wpRes, evRes, resV, AOp.ev, bin, binI, binS, shiftI, eqV, un, bound, boundO, fill, fillRows, aggOf, keyEq, findKey, putKey, V.cells, V.flat, byteOf, bytesOf, rdOf, H.wr, H.kOf, splice, isYl, ↓reduceIte, Nat.reduceEqDiff, Nat.reduceLeDiff, Nat.reduceLT, Nat.reduceAdd, Nat.reduceSub, Nat.reduceMul, Int.reduceLT, Int.reduceLE, Int.reduceEq, Int.reduceAdd, Int.reduceSub, Int.reduceMul, Int.reduceNeg, Int.reduceToNat, reduceCtorEq]
    · refine ⟨0, 0, -1, Nat.zero_add _, ?_, ?_, ?_, ?_, ?_, ?_, ?_, ?_, by omega, by omega, ?_⟩
      iterate 8 (first | (simp only [↓STEP, SB, looked, behind, lookOk, AAct.kind, AOp.kind, wpRes, evRes, resV, AOp.ev, bin, binI, binS, shiftI, eqV, un, bound, boundO, fill, fillRows, aggOf, keyEq, findKey, putKey, V.cells, V.flat, byteOf, bytesOf, rdOf, H.wr, H.kOf, splice, isYl, ↓reduceIte, Nat.reduceEqDiff, Nat.reduceLeDiff, Nat.reduceLT, Nat.reduceAdd, Nat.reduceSub, Nat.reduceMul, Int.reduceLT, Int.reduceLE, Int.reduceEq, Int.reduceAdd, Int.reduceSub, Int.reduceMul, Int.reduceNeg, Int.reduceToNat, reduceCtorEq] <;> done) | (simp only [↓STEP, SB, looked, behind, lookOk, AAct.kind, AOp.kind, wpRes, evRes, resV, AOp.ev, bin, binI, binS, shiftI, eqV, un, bound, boundO, fill, fillRows, aggOf, keyEq, findKey, putKey, V.cells, V.flat, byteOf, bytesOf, rdOf, H.wr, H.kOf, splice, isYl, ↓reduceIte, Nat.reduceEqDiff, Nat.reduceLeDiff, Nat.reduceLT, Nat.reduceAdd, Nat.reduceSub, Nat.reduceMul, Int.reduceLT, Int.reduceLE, Int.reduceEq, Int.reduceAdd, Int.reduceSub, Int.reduceMul, Int.reduceNeg, Int.reduceToNat, reduceCtorEq] <;> rfl) | rfl)
      subst hh2
      rcases hs with ⟨h1, h2⟩ | ⟨z, ro, h1, h2, h3⟩
      · exact .inl ⟨h1, h2, rfl, _, _, _, _, _, rfl⟩
      · exact .inr ⟨z, ro, h1, h2, h3, false, _, _, _, _, _, rfl, hT4, .inl ⟨rfl, rfl, by omega, fun i hi => ⟨(hAB i hi).1.trans (new_ab (by omega) (by omega) i hi).1, (hAB i hi).2.trans (new_ab (by omega) (by omega) i hi).2⟩⟩⟩
  · have y2 : ∀ h, gNew own0 cB [.i .i64 role, .i .i64 0, vList0, .agg [.i .i64 0, .i .i64 0, .i .i64 a, .i .i64 b, .i .i64 0], .i .i64 0] h = some (.tup [.p none, .i .i64 1], h) := fun h => by
      unfold gNew
      simp only
      rw [if_pos hv, if_pos hok, if_neg hr]
    simp only [↓STEP, SB, looked, behind, lookOk, AAct.kind, AOp.kind, wpRes, evRes, resV, AOp.ev, bin, binI, binS, shiftI, eqV, un, bound, boundO, fill, fillRows, aggOf, keyEq, findKey, putKey, V.cells, V.flat, byteOf, bytesOf, rdOf, H.wr, H.kOf, splice, isYl, ↓reduceIte, Nat.reduceEqDiff, Nat.reduceLeDiff, Nat.reduceLT, Nat.reduceAdd, Nat.reduceSub, Nat.reduceMul, Int.reduceLT, Int.reduceLE, Int.reduceEq, Int.reduceAdd, Int.reduceSub, Int.reduceMul, Int.reduceNeg, Int.reduceToNat, reduceCtorEq, x0, y0, x1, y1, a1, a2, b1, b2, x2, y2, List.getElem?_cons_zero, List.getElem?_cons_succ]
    rfl
theorem ints {xs : List Dt} (h : Dt.hasA (.i .i64) xs) : ∃ l : List Int, xs = l.map (fun n => Dt.i .i64 n) := by
  induction xs with
  | nil => exact ⟨[], rfl⟩
  | cons x xs ih =>
    obtain ⟨hx, hxs⟩ := h
    obtain ⟨n, rfl, _⟩ := has_i hx
    obtain ⟨l, rfl⟩ := ih hxs
    exact ⟨n :: l, rfl⟩
theorem ints_lay (h : H) : ∀ l : List Int, Dt.layR (l.map (fun n => Dt.i .i64 n)) h = (l.map (fun n => [V.i .i64 n]), h)
  | [] => rfl
  | n :: l => by
    show (([V.i .i64 n] : List V) :: (Dt.layR (l.map (fun n => Dt.i .i64 n)) h).1, (Dt.layR (l.map (fun n => Dt.i .i64 n)) h).2) = _
    rw [ints_lay h l]; rfl
theorem keepLaw (xs : List Dt) (h : Dt.hasL [.i .i64, .i .i64, .i .i64, .sl 1 (.i .i64)] xs) : ∃ m v h', Am.runN prU m (.fn 5) (Dt.args xs h0).1 (Dt.args xs h0).2 = some (v, h') ∧ v = .b true := by
  obtain ⟨x, xs, rfl, hx, h⟩ := hasL_cons h
  obtain ⟨y, xs, rfl, hy, h⟩ := hasL_cons h
  obtain ⟨y2, xs, rfl, hy2, h⟩ := hasL_cons h
  obtain ⟨z, xs, rfl, hz, h⟩ := hasL_cons h
  obtain rfl := hasL_nil h
  obtain ⟨role, rfl, _, _⟩ := has_i hx
  obtain ⟨a, rfl, _, _⟩ := has_i hy
  obtain ⟨b, rfl, _, _⟩ := has_i hy2
  rcases has_sl hz with rfl | ⟨zs, rfl, hlen, hzs⟩
  · exact keep_walk role a b (.sl none 0 0 true) h0 (.inl rfl) [] (.inl ⟨rfl, _, _, _, rfl⟩)
  · obtain ⟨l, rfl⟩ := ints hzs
    cases l with
    | nil => exact keep_walk role a b (.sl (some (4096, 0)) 0 0 false) ⟨4097, .e⟩ (.inr (.inl rfl)) [] (.inl ⟨rfl, _, _, _, rfl⟩)
    | cons n l =>
      have e : Dt.args [.i .i64 role, .i .i64 a, .i .i64 b, .sl 1 ((n :: l).map (fun n => Dt.i .i64 n))] h0 = ([.i .i64 role, .i .i64 a, .i .i64 b, .sl (some (4096, 0)) (n :: l).length (n :: l).length false], h0.push (.rows 1 ((n :: l).map (fun n => [V.i .i64 n])) true)) := by
        simp only [Dt.args, Dt.arg, Dt.lay, Dt.layL, ints_lay]
        simp [h0]
      rw [e]
      exact keep_walk role a b _ (h0.push (.rows 1 ((n :: l).map (fun n => [V.i .i64 n])) true)) (.inr (.inr ⟨_, rfl⟩)) (n :: l) (.inr ⟨_, true, rfl, rfl, rfl⟩)
end Go.Proofs.YtfabolagjlhdpaaGreat.EndK
