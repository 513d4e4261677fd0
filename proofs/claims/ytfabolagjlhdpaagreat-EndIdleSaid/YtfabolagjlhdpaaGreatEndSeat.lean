/- The law EndIdle at its seat: the walk over the law itself; no condition. -/
import Derived.Test.YtfabolagjlhdpaaGreatEndK2
import Derived.Test.YtfabolagjlhdpaaGreatEnd10
import Derived.Test.YtfabolagjlhdpaaGreatAmAll2
namespace Go.Proofs.YtfabolagjlhdpaaGreat.EndSeat
open Go (IntKind)
open Am Go.Proofs.YtfabolagjlhdpaaGreat.EndK
set_option linter.all false
set_option maxRecDepth 100000
set_option maxHeartbeats 8000000
theorem closed_walk {pr : Prog} {e : Nat} {c : Nat → V} {why : Int} {h : H} (he : h.get e = some (.rows 23 [eRow c] false)) (c17 : c 17 = .i .i64 why) : wpF pr c_endpoint_End_Closed [.p (some (e, 0, 0))] h (fun v g => v = .i .i64 why ∧ g = h) := by
  unfold eRow at he
  unfold wpF c_endpoint_End_Closed
  refine ⟨by simp, ?_⟩
  simp only [↓STEP, SB, looked, behind, lookOk, AAct.kind, AOp.kind, wpRes, evRes, resV, AOp.ev, bin, binI, binS, shiftI, eqV, un, bound, boundO, fill, fillRows, aggOf, keyEq, findKey, putKey, V.cells, V.flat, byteOf, bytesOf, rdOf, H.wr, H.kOf, splice, isYl, ↓reduceIte, Nat.reduceEqDiff, Nat.reduceLeDiff, Nat.reduceLT, Nat.reduceAdd, Nat.reduceSub, Nat.reduceMul, Int.reduceLT, Int.reduceLE, Int.reduceEq, Int.reduceAdd, Int.reduceSub, Int.reduceMul, Int.reduceNeg, Int.reduceToNat, reduceCtorEq, he, c17]
/-- The first deadline, and why it closes. -/
def Spec (T : Nat → Int) (first why : Int) : Prop :=
  (nxt (newA T) (newB T) noC 5 = 0 ∧ first = -1 ∧ why = 0) ∨ (nxt (newA T) (newB T) noC 5 = 1 ∧ first = newA T 1 ∧ why = 2 ∧ 0 < first) ∨ (nxt (newA T) (newB T) noC 5 = 2 ∧ first = newA T 2 ∧ why = 4 ∧ 0 < first)
theorem spec_of {a b d : Int} (ha : a ≤ 1099511627776) (hb : b ≤ 1099511627776) :
    (0 < a → ¬ (0 < b ∧ b < a) → Spec (tOf a b 0 d 0) a 2) ∧ (0 < b → (¬ 0 < a ∨ b < a) → Spec (tOf a b 0 d 0) b 4) ∧ (¬ 0 < a → ¬ 0 < b → Spec (tOf a b 0 d 0) (-1) 0) := by
  have m1 : min a 1099511627776 = a := by omega
  have m2 : min b 1099511627776 = b := by omega
  have A1 : newA (tOf a b 0 d 0) 1 = if 0 < a then a else 0 := by
    unfold newA armA
    simp only [tOf]
    by_cases h1 : 0 < a <;> by_cases h2 : 0 < b <;> simp [h1, h2, setF, m1, m2]
  have A2 : newA (tOf a b 0 d 0) 2 = if 0 < b then b else 0 := by
    unfold newA armA
    simp only [tOf]
    by_cases h1 : 0 < a <;> by_cases h2 : 0 < b <;> simp [h1, h2, setF, m1, m2]
  have B1 : newB (tOf a b 0 d 0) 1 = decide (0 < a) := by
    unfold newB armB
    simp only [tOf]
    by_cases h1 : 0 < a <;> by_cases h2 : 0 < b <;> simp [h1, h2, setF]
  have B2 : newB (tOf a b 0 d 0) 2 = decide (0 < b) := by
    unfold newB armB
    simp only [tOf]
    by_cases h1 : 0 < a <;> by_cases h2 : 0 < b <;> simp [h1, h2, setF]
  have B3 : ∀ i, 3 ≤ i → newB (tOf a b 0 d 0) i = false := by
    intro i hi
    unfold newB armB
    simp only [tOf]
    have e1 : ¬ i = 1 := by omega
    have e2 : ¬ i = 2 := by omega
    by_cases h1 : 0 < a <;> by_cases h2 : 0 < b <;> simp [h1, h2, setF, e1, e2]
  have n5 : nxt (newA (tOf a b 0 d 0)) (newB (tOf a b 0 d 0)) noC 5 = if 0 < b ∧ (¬ 0 < a ∨ b < a) then 2 else if 0 < a then 1 else 0 := by
    simp only [nxt, nx1, B3 3 (by omega), B3 4 (by omega), B3 5 (by omega), B1, B2, noC]
    by_cases h1 : 0 < a <;> by_cases h2 : 0 < b <;> by_cases h3 : b < a <;> simp [h1, h2, h3, A1, A2]
  unfold Spec
  rw [n5, A1, A2]
  refine ⟨fun h1 h2 => .inr (.inl ⟨?_, ?_, rfl, by omega⟩), fun h1 h2 => .inr (.inr ⟨?_, ?_, rfl, by omega⟩), fun h1 h2 => .inl ⟨?_, rfl, rfl⟩⟩
  · rw [if_neg (fun q => by rcases q.2 with q2 | q2; exact q2 h1; exact h2 ⟨q.1, q2⟩), if_pos h1]
  · rw [if_pos h1]
  · rw [if_pos ⟨h1, h2⟩]
  · rw [if_pos h1]
  · rw [if_neg (fun q => h2 q.1), if_neg h1]
/-- How it stands between ticks. -/
def Stand (base : H) (role : Int) (T : Nat → Int) (first why now : Int) (h : H) : Prop :=
  (base.nx + 17 < h.nx ∧ ∀ x, base.get 4096 = some x → base.nx = 4097 → h.get 4096 = some x) ∧
  ((now < first ∨ first < 0) ∧ (∃ b' x1 ob tb A B T', Base b' ∧ b'.nx = base.nx ∧ h = eH b' x1 ob tb role A B T' now ∧ ∀ i, i < 6 → A i = newA T i ∧ B i = newB T i) ∨
   0 ≤ first ∧ first ≤ now ∧ ∃ c n0, h.get (base.nx + 17) = some (.rows 23 [eRow c] false) ∧ c 12 = .i .i64 n0 ∧ c 17 = .i .i64 why ∧ why ≠ 0)
def LoopI (base : H) (role : Int) (T : Nat → Int) (first why : Int) (sl : V) (n : Nat) (m : Nat) (t : Tm) (h : H) : Prop :=
  ∃ i now, i + m = n ∧ t.v 13 = .i .i64 (i : Nat) ∧ t.v 12 = .i .i64 now ∧ t.v 10 = .i .i64 first ∧ t.v 11 = .i .i64 why ∧ t.v 2 = sl ∧ t.v 8 = .p (some (base.nx + 17, 0, 0)) ∧ t.v 7 = .b true ∧ 0 ≤ now ∧ Stand base role T first why now h
theorem gRl_some {R : Rl} {ys : List V} {h h' : H} {v : V} (hr : R ys h v h') : ∃ v2 h2, gRl R ys h = some (v2, h2) ∧ R ys h v2 h2 := by
  unfold gRl
  have hx : ∃ p : V × H, R ys h p.1 p.2 := ⟨(v, h'), hr⟩
  rw [dif_pos hx]
  exact ⟨_, _, rfl, Classical.choose_spec hx⟩
theorem cB_len (r : Int) (n : Nat) : (cB r n).length = 13 := by unfold cB; split <;> rfl
theorem eH_e {b x1 ob tb role A B T now} : (eH b x1 ob tb role A B T now).get (b.nx + 17) = some (.rows 23 [eRow (endC role own0 T now (b.nx + 1) true)] false) := UH_e (h := b.push x1) (cB_len role)
theorem eH_t {b x1 ob tb role A B T now} : (eH b x1 ob tb role A B T now).get (b.nx + 16) = some (.rows 12 [tRow A B] false) := UH_t (h := b.push x1) (cB_len role)
theorem eH_nx {b x1 ob tb role A B T now} : (eH b x1 ob tb role A B T now).nx = b.nx + 19 := UH_nx (h := b.push x1) (cB_len role)
theorem eH_low {b x1 ob tb role A B T now} {i : Nat} (hi : i < b.nx) : (eH b x1 ob tb role A B T now).get i = b.get i := by
  have e : (b.push x1).nx = b.nx + 1 := rfl
  rw [UH_get (cB_len role), e, if_neg (by omega), if_neg (by omega), if_neg (by omega), pushAll_get, if_neg (fun q => by have q1 : b.nx + 1 + 1 + 1 ≤ i := q.1; omega), H.get_push, if_neg (fun q => by have q : i = b.nx + 1 + 1 := q; omega), H.get_push, if_neg (fun q => by have q : i = b.nx + 1 := q; omega), H.get_push, if_neg (by omega)]
theorem base_nx {b : H} (hb : Base b) : b.nx = 4096 ∨ b.nx = 4097 := by
  rcases hb with rfl | rfl | ⟨z, rfl⟩
  · exact .inl rfl
  · exact .inr rfl
  · exact .inr rfl
theorem row_at {h : H} {e : Nat} {c d : Nat → V} (h1 : h.get e = some (.rows 23 [eRow c] false)) (h2 : h.get e = some (.rows 23 [eRow d] false)) : ∀ i, i < 23 → c i = d i := by
  rw [h1] at h2
  simp only [Option.some.injEq, Blk.rows.injEq, List.cons.injEq, and_true, true_and] at h2
  exact eRow_inj h2
theorem tick_stand {base : H} {role : Int} {T : Nat → Int} {F W now x : Int} {h : H} (hr : role = 1 ∨ role = 2) (hSp : Spec T F W) (hS : Stand base role T F W now h) :
    ∃ v' h', gRl (TickE own0 cB Base) [.p (some (base.nx + 17, 0, 0)), .i .i64 x] h = some (v', h') ∧ Stand base role T F W (if now ≤ x ∧ x ≤ 1099511627776 then x else now) h' ∧
      ∃ c, h'.get (base.nx + 17) = some (.rows 23 [eRow c] false) ∧ c 17 = .i .i64 (if 0 ≤ F ∧ F ≤ (if now ≤ x ∧ x ≤ 1099511627776 then x else now) then W else 0) := by
  obtain ⟨⟨hn, h4⟩, hS⟩ := hS
  have ex : ∃ v h', TickE own0 cB Base [.p (some (base.nx + 17, 0, 0)), .i .i64 x] h v h' := by
    rcases hS with ⟨ho, b', x1, ob, tb, A, B, T', hb', hbn, rfl, hAB⟩ | ⟨f0, f1, c, n0, hc, c12, c17, hw⟩
    · by_cases hx : now ≤ x ∧ x ≤ 1099511627776
      · have hk : nxt A B noC 5 = nxt (newA T) (newB T) noC 5 := nxt_congr hAB (fun _ _ => rfl) 5 (by omega)
        by_cases hd : nxt A B noC 5 = 0 ∨ x < A (nxt A B noC 5)
        · exact ⟨_, _, .inr ⟨b', x1, ob, tb, role, A, B, T', now, x, hb', hr, by rw [hbn], rfl, hx.1, hx.2, .inl ⟨hd, rfl, rfl⟩⟩⟩
        · refine ⟨_, _, .inr ⟨b', x1, ob, tb, role, A, B, T', now, x, hb', hr, by rw [hbn], rfl, hx.1, hx.2, .inr ⟨nxt A B noC 5, rfl, ?_, ?_, rfl, rfl⟩⟩⟩
          · rw [hk]
            rcases hSp with ⟨q, _⟩ | ⟨q, _⟩ | ⟨q, _⟩
            · exact absurd (.inl (hk.trans q)) hd
            · exact .inl q
            · exact .inr (.inl q)
          · have := fun q => hd (.inr q); omega
      · exact ⟨_, _, .inl ⟨b'.nx + 17, _, now, x, 0, by rw [hbn], by rw [eH_nx]; omega, eH_e, rfl, rfl, .inr (by omega), rfl, rfl⟩⟩
    · exact ⟨_, _, .inl ⟨_, c, n0, x, W, rfl, hn, hc, c12, c17, .inl hw, rfl, rfl⟩⟩
  obtain ⟨v0, h0', hR0⟩ := ex
  obtain ⟨v', h', hg, hR⟩ := gRl_some hR0
  refine ⟨v', h', hg, ?_⟩
  clear hR0 hg
  rcases hR with ⟨e, c, n0, t, why, hy, he, ge, c12, c17, hw, _, rfl⟩ | ⟨b2, y1, ob2, tb2, r2, A2, B2, T2, now2, t, hb2, hr2, hy, rfl, hO⟩
  · simp only [List.cons.injEq, V.p.injEq, V.i.injEq, Option.some.injEq, Prod.mk.injEq, true_and, and_true] at hy
    obtain ⟨rfl, rfl⟩ := hy
    rcases hS with ⟨ho, b', x1, ob, tb, A, B, T', hb', hbn, rfl, hAB⟩ | ⟨f0, f1, c', n0', hc, c12', c17', hw'⟩
    · have ee := eH_e (b := b') (x1 := x1) (ob := ob) (tb := tb) (role := role) (A := A) (B := B) (T := T') (now := now)
      rw [hbn] at ee
      have r := row_at ge ee
      have q12 : V.i .i64 n0 = V.i .i64 now := c12.symm.trans (r 12 (by omega))
      have q17 : V.i .i64 why = V.i .i64 0 := c17.symm.trans (r 17 (by omega))
      cases q12; cases q17
      have hx : ¬ (now ≤ x ∧ x ≤ 1099511627776) := by omega
      rw [if_neg hx]
      refine ⟨⟨⟨hn, h4⟩, .inl ⟨ho, b', x1, ob, tb, A, B, T', hb', hbn, rfl, hAB⟩⟩, _, ee, ?_⟩
      rw [if_neg (by omega)]; rfl
    · have hle : now ≤ (if now ≤ x ∧ x ≤ 1099511627776 then x else now) := by split <;> omega
      refine ⟨⟨⟨hn, h4⟩, .inr ⟨f0, by omega, c', n0', hc, c12', c17', hw'⟩⟩, c', hc, ?_⟩
      rw [if_pos ⟨f0, by omega⟩]; exact c17'
  · simp only [List.cons.injEq, V.p.injEq, V.i.injEq, Option.some.injEq, Prod.mk.injEq, true_and, and_true] at hy
    obtain ⟨hbe, rfl⟩ := hy
    have hbe : b2.nx = base.nx := by omega
    have e2 := eH_e (b := b2) (x1 := y1) (ob := ob2) (tb := tb2) (role := r2) (A := A2) (B := B2) (T := T2) (now := now2)
    rw [hbe] at e2
    rcases hS with ⟨ho, b', x1, ob, tb, A, B, T', hb', hbn, hEq, hAB⟩ | ⟨f0, f1, c', n0', hc, c12', c17', hw'⟩
    · have ee := eH_e (b := b') (x1 := x1) (ob := ob) (tb := tb) (role := role) (A := A) (B := B) (T := T') (now := now)
      have et := eH_t (b := b') (x1 := x1) (ob := ob) (tb := tb) (role := role) (A := A) (B := B) (T := T') (now := now)
      have t2 := eH_t (b := b2) (x1 := y1) (ob := ob2) (tb := tb2) (role := r2) (A := A2) (B := B2) (T := T2) (now := now2)
      rw [hbe] at t2
      rw [hbn, ← hEq] at ee et
      have r := row_at ee e2
      have q12 : V.i .i64 now = V.i .i64 now2 := r 12 (by omega)
      cases q12
      rw [et] at t2
      simp only [Option.some.injEq, Blk.rows.injEq, List.cons.injEq, and_true, true_and] at t2
      have hAA := tRow_inj t2
      have hAB2 : ∀ i, i < 6 → A2 i = newA T i ∧ B2 i = newB T i := fun i hi => ⟨(hAA i hi).1.symm.trans (hAB i hi).1, (hAA i hi).2.symm.trans (hAB i hi).2⟩
      have hk : nxt A2 B2 noC 5 = nxt (newA T) (newB T) noC 5 := nxt_congr hAB2 (fun _ _ => rfl) 5 (by omega)
      obtain ⟨o1, o2, hO⟩ := hO
      rw [if_pos ⟨o1, o2⟩]
      have low : ∀ z, base.get 4096 = some z → base.nx = 4097 → b2.get 4096 = some z := fun z hz hz2 => by
        have := h4 z hz hz2
        rw [eH_low (by omega)] at this
        exact this
      rcases hO with ⟨hd, _, rfl⟩ | ⟨k, hk2, hk3, hA, _, rfl⟩
      · have ho' : x < F ∨ F < 0 := by
          rw [hk] at hd
          rcases hSp with ⟨q, e1, _⟩ | ⟨q, e1, _⟩ | ⟨q, e1, _⟩
          · exact .inr (by omega)
          · rcases hd with hd | hd
            · omega
            · rw [q, (hAB2 1 (by omega)).1] at hd; exact .inl (by omega)
          · rcases hd with hd | hd
            · omega
            · rw [q, (hAB2 2 (by omega)).1] at hd; exact .inl (by omega)
        refine ⟨⟨⟨by rw [eH_nx]; omega, fun z hz hz2 => by rw [eH_low (by omega)]; exact low z hz hz2⟩, .inl ⟨ho', b2, y1, ob2, tb2, A2, B2, T2, hb2, hbe, ?_, hAB2⟩⟩, endC r2 own0 T2 x (base.nx + 1) true, ?_, ?_⟩
        · have q0 : V.i .i64 role = V.i .i64 r2 := r 0 (by omega)
          cases q0; rfl
        · have := eH_e (b := b2) (x1 := y1) (ob := ob2) (tb := tb2) (role := r2) (A := A2) (B := B2) (T := T2) (now := x)
          rw [hbe] at this; exact this
        · rw [if_neg (by omega)]; rfl
      · have hF : 0 ≤ F ∧ F ≤ x ∧ W = whyOf k := by
          rw [hk] at hk2
          rcases hSp with ⟨q, e1, _⟩ | ⟨q, e1, e2, e3⟩ | ⟨q, e1, e2, e3⟩
          · rw [q] at hk2; subst hk2; rcases hk3 with h | h | h <;> omega
          · rw [q] at hk2; subst hk2
            rw [(hAB2 1 (by omega)).1] at hA
            exact ⟨by omega, by omega, e2⟩
          · rw [q] at hk2; subst hk2
            rw [(hAB2 2 (by omega)).1] at hA
            exact ⟨by omega, by omega, e2⟩
        have hc : (CH b2 (b2.nx + 1) (shutC own0 r2 T2 x (b2.nx + 1) k nilS)).get (base.nx + 17) = some (.rows 23 [eRow (shutC own0 r2 T2 x (b2.nx + 1) k nilS)] false) := by
          rw [CH_get, if_pos (by omega)]
        refine ⟨⟨⟨by show base.nx + 17 < b2.nx + 1 + 19; omega, fun z hz hz2 => by rw [CH_get, if_neg (by omega)]; exact low z hz hz2⟩, .inr ⟨hF.1, hF.2.1, _, x, hc, rfl, by rw [hF.2.2]; rfl, ?_⟩⟩, _, hc, ?_⟩
        · rw [hF.2.2]; rcases hk3 with rfl | rfl | rfl <;> decide
        · rw [if_pos ⟨hF.1, hF.2.1⟩, hF.2.2]; rfl
    · have r := row_at hc e2
      have q17 : V.i .i64 W = V.i .i64 0 := c17'.symm.trans (r 17 (by omega))
      cases q17
      exact absurd rfl hw'
theorem idle_walk (role a b c d f : Int) (sl : V) (base : H) (hb : Base base) (l : List Int) (hs : (l = [] ∧ ∃ x y z, sl = .sl x 0 y z) ∨ ∃ ro, base.get 4096 = some (.rows 1 (l.map fun n => [.i .i64 n]) ro) ∧ sl = .sl (some (4096, 0)) l.length l.length false ∧ base.nx = 4097) :
    Runs prT (.fn 3) [.i .i64 role, .agg [.i .i64 a, .i .i64 b, .i .i64 c, .i .i64 d, .i .i64 f], sl] base (fun v _ => v = .b true) := by
  have x0 := @wpCall_ext prT 6 _ rfl
  have y0 : ∀ h, xConst (.b true) [] h = some (.b true, h) := fun h => rfl
  have x1 := @wpCall_ext prT 8 _ rfl
  have y1 : ∀ h, xConst vList0 [] h = some (vList0, h) := fun h => rfl
  have x2 := @wpCall_ext prT 7 _ rfl
  have x3 := @wpCall_ext prT 9 _ rfl
  have hv : vList0 = ownV own0 := rfl
  refine runs_of_wpF (af := Go.Proofs.YtfabolagjlhdpaaGreat.LitEnd.l3) rfl (by kernel_rfl) ?_
  unfold wpF Go.Proofs.YtfabolagjlhdpaaGreat.LitEnd.l3
  refine ⟨by simp, ?_⟩
  simp only [↓STEP, SB, looked, behind, lookOk, AAct.kind, AOp.kind, wpRes, evRes, resV, AOp.ev, bin, binI, binS, shiftI, eqV, un, bound, boundO, fill, fillRows, aggOf, keyEq, findKey, putKey, V.cells, V.flat, byteOf, bytesOf, rdOf, H.wr, H.kOf, splice, isYl, ↓reduceIte, Nat.reduceEqDiff, Nat.reduceLeDiff, Nat.reduceLT, Nat.reduceAdd, Nat.reduceSub, Nat.reduceMul, Int.reduceLT, Int.reduceLE, Int.reduceEq, Int.reduceAdd, Int.reduceSub, Int.reduceMul, Int.reduceNeg, Int.reduceToNat, reduceCtorEq, x0, y0, x1, y1, push_set]
  by_cases hok : (timeOk a && timeOk b && timeOk 0 && timeOk d && timeOk 0) = true ∧ (role = 1 ∨ role = 2)
  · have y2 : ∀ h, gNew own0 cB [.i .i64 role, .i .i64 0, vList0, .agg [.i .i64 a, .i .i64 b, .i .i64 0, .i .i64 d, .i .i64 0], .i .i64 0] h = some (.tup [.p (some (h.nx + 16, 0, 0)), .i .i64 0], UH h (ownB own0) (timesB (tOf a b 0 d 0)) (cB role) role (newA (tOf a b 0 d 0)) (newB (tOf a b 0 d 0)) (endC role own0 (tOf a b 0 d 0) 0 h.nx true)) := fun h => by
      unfold gNew
      simp only
      rw [if_pos hv, if_pos hok.1, if_pos hok.2]
    have hlc : ∀ n, (cB role n).length = 13 := fun n => by unfold cB; split <;> rfl
    have ha : a ≤ 1099511627776 := by have := hok.1; simp only [Bool.and_eq_true, timeOk, decide_eq_true_iff] at this; omega
    have hb' : b ≤ 1099511627776 := by have := hok.1; simp only [Bool.and_eq_true, timeOk, decide_eq_true_iff] at this; omega
    simp only [↓STEP, SB, looked, behind, lookOk, AAct.kind, AOp.kind, wpRes, evRes, resV, AOp.ev, bin, binI, binS, shiftI, eqV, un, bound, boundO, fill, fillRows, aggOf, keyEq, findKey, putKey, V.cells, V.flat, byteOf, bytesOf, rdOf, H.wr, H.kOf, splice, isYl, ↓reduceIte, Nat.reduceEqDiff, Nat.reduceLeDiff, Nat.reduceLT, Nat.reduceAdd, Nat.reduceSub, Nat.reduceMul, Int.reduceLT, Int.reduceLE, Int.reduceEq, Int.reduceAdd, Int.reduceSub, Int.reduceMul, Int.reduceNeg, Int.reduceToNat, reduceCtorEq, x2, y2, List.getElem?_cons_zero, List.getElem?_cons_succ]
    have hst : ∀ first why, Spec (tOf a b 0 d 0) first why → Stand base role (tOf a b 0 d 0) first why 0 (UH (base.push (.rows 5 [[.i .i64 a, .i .i64 b, .i .i64 0, .i .i64 d, .i .i64 0]] false)) (ownB own0) (timesB (tOf a b 0 d 0)) (cB role) role (newA (tOf a b 0 d 0)) (newB (tOf a b 0 d 0)) (endC role own0 (tOf a b 0 d 0) 0 (base.nx + 1) true)) := by
      intro first why hS
      have hn := base_nx hb
      refine ⟨⟨by show _ < (eH base _ _ _ role _ _ _ 0).nx; rw [eH_nx]; omega, fun z hz h2 => by show (eH base _ _ _ role _ _ _ 0).get 4096 = _; rw [eH_low (by omega)]; exact hz⟩, .inl ⟨?_, base, _, _, _, _, _, _, hb, rfl, rfl, fun i hi => ⟨rfl, rfl⟩⟩⟩
      rcases hS with ⟨_, q, _⟩ | ⟨_, _, _, q⟩ | ⟨_, _, _, q⟩ <;> omega
    have hnx : (UH (base.push (.rows 5 [[.i .i64 a, .i .i64 b, .i .i64 0, .i .i64 d, .i .i64 0]] false)) (ownB own0) (timesB (tOf a b 0 d 0)) (cB role) role (newA (tOf a b 0 d 0)) (newB (tOf a b 0 d 0)) (endC role own0 (tOf a b 0 d 0) 0 (base.nx + 1) true)).nx = base.nx + 19 := UH_nx hlc
    have g1 : (UH (base.push (.rows 5 [[.i .i64 a, .i .i64 b, .i .i64 0, .i .i64 d, .i .i64 0]] false)) (ownB own0) (timesB (tOf a b 0 d 0)) (cB role) role (newA (tOf a b 0 d 0)) (newB (tOf a b 0 d 0)) (endC role own0 (tOf a b 0 d 0) 0 (base.nx + 1) true)).get base.nx = some (.rows 5 [[.i .i64 a, .i .i64 b, .i .i64 0, .i .i64 d, .i .i64 0]] false) := by
      have e : (base.push (.rows 5 [[.i .i64 a, .i .i64 b, .i .i64 0, .i .i64 d, .i .i64 0]] false)).nx = base.nx + 1 := rfl
      rw [UH_get hlc, e, if_neg (by omega), if_neg (by omega), if_neg (by omega), pushAll_get, if_neg (fun q => by have q1 : base.nx + 1 + 1 + 1 ≤ base.nx := q.1; omega), H.get_push, if_neg (fun q => by have q : base.nx = base.nx + 1 + 1 := q; omega), H.get_push, if_neg (fun q => by have q : base.nx = base.nx + 1 := q; omega), H.get_push, if_pos rfl]
    generalize UH _ _ _ _ _ _ _ _ = hE at *
    refine ⟨Nat.ble_eq_true_of_le (by omega), ?_⟩
    have key : ∀ (first why : Int), Spec (tOf a b 0 d 0) first why → ∀ t : Tm, t.v 12 = .i .i64 0 → t.v 13 = .i .i64 0 → t.v 10 = .i .i64 first → t.v 11 = .i .i64 why → t.v 2 = sl → t.v 8 = .p (some (base.nx + 17, 0, 0)) → t.v 7 = .b true → LoopI base role (tOf a b 0 d 0) first why sl l.length l.length t hE :=
      fun first why hs t q1 q2 q3 q4 q5 q6 q7 => ⟨0, 0, Nat.zero_add _, q2, q1, q3, q4, q5, q6, q7, Int.le_refl _, hst first why hs⟩
    obtain ⟨s1, s2, s3⟩ := spec_of (d := d) ha hb'
    by_cases c1 : 0 < a
    · have c1' : a > 0 := c1
      have c3 : ¬ a < 0 := by omega
      by_cases c2 : 0 < b
      · have c2' : b > 0 := c2
        by_cases c4 : b < a
        · simp only [↓STEP, SB, looked, behind, lookOk, AAct.kind, AOp.kind, wpRes, evRes, resV, AOp.ev, bin, binI, binS, shiftI, eqV, un, bound, boundO, fill, fillRows, aggOf, keyEq, findKey, putKey, V.cells, V.flat, byteOf, bytesOf, rdOf, H.wr, H.kOf, splice, isYl, ↓reduceIte, Nat.reduceEqDiff, Nat.reduceLeDiff, Nat.reduceLT, Nat.reduceAdd, Nat.reduceSub, Nat.reduceMul, Int.reduceLT, Int.reduceLE, Int.reduceEq, Int.reduceAdd, Int.reduceSub, Int.reduceMul, Int.reduceNeg, Int.reduceToNat, reduceCtorEq, g1, c1', c2', c3, c4]
          refine wpA_loop_inv (LoopI base role (tOf a b 0 d 0) (b) (4) sl l.length) ?_ (m := l.length) (key (b) (4) (s2 c2 (.inr c4)) _ ?_ ?_ ?_ ?_ ?_ ?_ ?_)
          · rintro m t h ⟨i, now, him, t13, t12, t10, t11, t2, t8, t7, hnow, hS⟩
            rcases hs with ⟨rfl, x, y, z, rfl⟩ | ⟨ro, gb, rfl, hbn⟩
            · obtain rfl : i = 0 := by simp at him; omega
              simp only [↓STEP, SB, looked, behind, lookOk, AAct.kind, AOp.kind, wpRes, evRes, resV, AOp.ev, bin, binI, binS, shiftI, eqV, un, bound, boundO, fill, fillRows, aggOf, keyEq, findKey, putKey, V.cells, V.flat, byteOf, bytesOf, rdOf, H.wr, H.kOf, splice, isYl, ↓reduceIte, Nat.reduceEqDiff, Nat.reduceLeDiff, Nat.reduceLT, Nat.reduceAdd, Nat.reduceSub, Nat.reduceMul, Int.reduceLT, Int.reduceLE, Int.reduceEq, Int.reduceAdd, Int.reduceSub, Int.reduceMul, Int.reduceNeg, Int.reduceToNat, reduceCtorEq, t13, t12, t10, t11, t2, t8, t7]
            · by_cases hi : i < l.length ∧ i < 20
              · have hi1 : (i : Int) < (l.length : Int) := by omega
                have hi2 : (i : Int) < 20 := by omega
                have hi3 : (0 : Int) ≤ (i : Int) := by omega
                have hx : (l.map fun n => [V.i .i64 n])[i]? = some [V.i .i64 (l[i]'hi.1)] := by rw [List.getElem?_map, List.getElem?_eq_getElem hi.1]; rfl
                generalize l[i]'hi.1 = x at hx
                have g4 := hS.1.2 _ gb hbn
                obtain ⟨v', h', hg, hS', c', hc, c17⟩ := tick_stand (x := x) hok.2 (s2 c2 (.inr c4)) hS
                have wi : IntKind.wrap .i64 ((i : Int) + 1) = i + 1 := wrap_i64 (by omega) (by omega)
                by_cases p1 : now ≤ x ∧ x ≤ 1099511627776
                · have p1a : x ≥ now := p1.1
                  rw [if_pos p1] at hS' c17
                  have f0 : b ≥ 0 := by omega
                  by_cases q2 : b ≤ x
                  · have q2a : x ≥ b := q2
                    rw [if_pos ⟨f0, q2⟩] at c17
                    simp only [↓STEP, SB, looked, behind, lookOk, AAct.kind, AOp.kind, wpRes, evRes, resV, AOp.ev, bin, binI, binS, shiftI, eqV, un, bound, boundO, fill, fillRows, aggOf, keyEq, findKey, putKey, V.cells, V.flat, byteOf, bytesOf, rdOf, H.wr, H.kOf, splice, isYl, ↓reduceIte, Nat.reduceEqDiff, Nat.reduceLeDiff, Nat.reduceLT, Nat.reduceAdd, Nat.reduceSub, Nat.reduceMul, Int.reduceLT, Int.reduceLE, Int.reduceEq, Int.reduceAdd, Int.reduceSub, Int.reduceMul, Int.reduceNeg, Int.reduceToNat, reduceCtorEq, t13, t12, t10, t11, t2, t8, t7, hi1, hi2, hi3, g4, hx, x3, hg, wi, p1a, p1.2, f0, q2a]
                    refine Runs.mono (c := .fn 10) («as» := [.p (some (base.nx + 17, 0, 0))] ++ []) (runs_of_wpF (pr := prT) (af := Am.c_endpoint_End_Closed) rfl (by kernel_rfl) (closed_walk hc c17)) ?_
                    rintro v2 g2 ⟨rfl, rfl⟩
                    simp only [↓STEP, SB, looked, behind, lookOk, AAct.kind, AOp.kind, wpRes, evRes, resV, AOp.ev, bin, binI, binS, shiftI, eqV, un, bound, boundO, fill, fillRows, aggOf, keyEq, findKey, putKey, V.cells, V.flat, byteOf, bytesOf, rdOf, H.wr, H.kOf, splice, isYl, ↓reduceIte, Nat.reduceEqDiff, Nat.reduceLeDiff, Nat.reduceLT, Nat.reduceAdd, Nat.reduceSub, Nat.reduceMul, Int.reduceLT, Int.reduceLE, Int.reduceEq, Int.reduceAdd, Int.reduceSub, Int.reduceMul, Int.reduceNeg, Int.reduceToNat, reduceCtorEq, wi,  t13]
                    refine ⟨m - 1, by omega, i + 1, x, by omega, ?_, ?_, ?_, ?_, ?_, ?_, ?_, by omega, hS'⟩
                    all_goals (simp only [↓STEP, SB, looked, behind, lookOk, AAct.kind, AOp.kind, wpRes, evRes, resV, AOp.ev, bin, binI, binS, shiftI, eqV, un, bound, boundO, fill, fillRows, aggOf, keyEq, findKey, putKey, V.cells, V.flat, byteOf, bytesOf, rdOf, H.wr, H.kOf, splice, isYl, ↓reduceIte, Nat.reduceEqDiff, Nat.reduceLeDiff, Nat.reduceLT, Nat.reduceAdd, Nat.reduceSub, Nat.reduceMul, Int.reduceLT, Int.reduceLE, Int.reduceEq, Int.reduceAdd, Int.reduceSub, Int.reduceMul, Int.reduceNeg, Int.reduceToNat, reduceCtorEq, t12, t10, t11, t2, t8, t7] <;> rfl)
                  · have q2a : ¬ x ≥ b := q2
                    rw [if_neg (fun q => q2 q.2)] at c17
                    simp only [↓STEP, SB, looked, behind, lookOk, AAct.kind, AOp.kind, wpRes, evRes, resV, AOp.ev, bin, binI, binS, shiftI, eqV, un, bound, boundO, fill, fillRows, aggOf, keyEq, findKey, putKey, V.cells, V.flat, byteOf, bytesOf, rdOf, H.wr, H.kOf, splice, isYl, ↓reduceIte, Nat.reduceEqDiff, Nat.reduceLeDiff, Nat.reduceLT, Nat.reduceAdd, Nat.reduceSub, Nat.reduceMul, Int.reduceLT, Int.reduceLE, Int.reduceEq, Int.reduceAdd, Int.reduceSub, Int.reduceMul, Int.reduceNeg, Int.reduceToNat, reduceCtorEq, t13, t12, t10, t11, t2, t8, t7, hi1, hi2, hi3, g4, hx, x3, hg, wi, p1a, p1.2, f0, q2a]
                    refine Runs.mono (c := .fn 10) («as» := [.p (some (base.nx + 17, 0, 0))] ++ []) (runs_of_wpF (pr := prT) (af := Am.c_endpoint_End_Closed) rfl (by kernel_rfl) (closed_walk hc c17)) ?_
                    rintro v2 g2 ⟨rfl, rfl⟩
                    simp only [↓STEP, SB, looked, behind, lookOk, AAct.kind, AOp.kind, wpRes, evRes, resV, AOp.ev, bin, binI, binS, shiftI, eqV, un, bound, boundO, fill, fillRows, aggOf, keyEq, findKey, putKey, V.cells, V.flat, byteOf, bytesOf, rdOf, H.wr, H.kOf, splice, isYl, ↓reduceIte, Nat.reduceEqDiff, Nat.reduceLeDiff, Nat.reduceLT, Nat.reduceAdd, Nat.reduceSub, Nat.reduceMul, Int.reduceLT, Int.reduceLE, Int.reduceEq, Int.reduceAdd, Int.reduceSub, Int.reduceMul, Int.reduceNeg, Int.reduceToNat, reduceCtorEq, wi,  t13]
                    refine ⟨m - 1, by omega, i + 1, x, by omega, ?_, ?_, ?_, ?_, ?_, ?_, ?_, by omega, hS'⟩
                    all_goals (simp only [↓STEP, SB, looked, behind, lookOk, AAct.kind, AOp.kind, wpRes, evRes, resV, AOp.ev, bin, binI, binS, shiftI, eqV, un, bound, boundO, fill, fillRows, aggOf, keyEq, findKey, putKey, V.cells, V.flat, byteOf, bytesOf, rdOf, H.wr, H.kOf, splice, isYl, ↓reduceIte, Nat.reduceEqDiff, Nat.reduceLeDiff, Nat.reduceLT, Nat.reduceAdd, Nat.reduceSub, Nat.reduceMul, Int.reduceLT, Int.reduceLE, Int.reduceEq, Int.reduceAdd, Int.reduceSub, Int.reduceMul, Int.reduceNeg, Int.reduceToNat, reduceCtorEq, t12, t10, t11, t2, t8, t7] <;> rfl)
                · by_cases p2 : x ≥ now
                  · have p3 : ¬ x ≤ 1099511627776 := fun q => p1 ⟨p2, q⟩
                    rw [if_neg p1] at hS' c17
                    have f0 : b ≥ 0 := by omega
                    by_cases q2 : b ≤ now
                    · have q2a : now ≥ b := q2
                      rw [if_pos ⟨f0, q2⟩] at c17
                      simp only [↓STEP, SB, looked, behind, lookOk, AAct.kind, AOp.kind, wpRes, evRes, resV, AOp.ev, bin, binI, binS, shiftI, eqV, un, bound, boundO, fill, fillRows, aggOf, keyEq, findKey, putKey, V.cells, V.flat, byteOf, bytesOf, rdOf, H.wr, H.kOf, splice, isYl, ↓reduceIte, Nat.reduceEqDiff, Nat.reduceLeDiff, Nat.reduceLT, Nat.reduceAdd, Nat.reduceSub, Nat.reduceMul, Int.reduceLT, Int.reduceLE, Int.reduceEq, Int.reduceAdd, Int.reduceSub, Int.reduceMul, Int.reduceNeg, Int.reduceToNat, reduceCtorEq, t13, t12, t10, t11, t2, t8, t7, hi1, hi2, hi3, g4, hx, x3, hg, wi, p2, p3, f0, q2a]
                      refine Runs.mono (c := .fn 10) («as» := [.p (some (base.nx + 17, 0, 0))] ++ []) (runs_of_wpF (pr := prT) (af := Am.c_endpoint_End_Closed) rfl (by kernel_rfl) (closed_walk hc c17)) ?_
                      rintro v2 g2 ⟨rfl, rfl⟩
                      simp only [↓STEP, SB, looked, behind, lookOk, AAct.kind, AOp.kind, wpRes, evRes, resV, AOp.ev, bin, binI, binS, shiftI, eqV, un, bound, boundO, fill, fillRows, aggOf, keyEq, findKey, putKey, V.cells, V.flat, byteOf, bytesOf, rdOf, H.wr, H.kOf, splice, isYl, ↓reduceIte, Nat.reduceEqDiff, Nat.reduceLeDiff, Nat.reduceLT, Nat.reduceAdd, Nat.reduceSub, Nat.reduceMul, Int.reduceLT, Int.reduceLE, Int.reduceEq, Int.reduceAdd, Int.reduceSub, Int.reduceMul, Int.reduceNeg, Int.reduceToNat, reduceCtorEq, wi,  t13]
                      refine ⟨m - 1, by omega, i + 1, now, by omega, ?_, ?_, ?_, ?_, ?_, ?_, ?_, by omega, hS'⟩
                      all_goals (simp only [↓STEP, SB, looked, behind, lookOk, AAct.kind, AOp.kind, wpRes, evRes, resV, AOp.ev, bin, binI, binS, shiftI, eqV, un, bound, boundO, fill, fillRows, aggOf, keyEq, findKey, putKey, V.cells, V.flat, byteOf, bytesOf, rdOf, H.wr, H.kOf, splice, isYl, ↓reduceIte, Nat.reduceEqDiff, Nat.reduceLeDiff, Nat.reduceLT, Nat.reduceAdd, Nat.reduceSub, Nat.reduceMul, Int.reduceLT, Int.reduceLE, Int.reduceEq, Int.reduceAdd, Int.reduceSub, Int.reduceMul, Int.reduceNeg, Int.reduceToNat, reduceCtorEq, t12, t10, t11, t2, t8, t7] <;> rfl)
                    · have q2a : ¬ now ≥ b := q2
                      rw [if_neg (fun q => q2 q.2)] at c17
                      simp only [↓STEP, SB, looked, behind, lookOk, AAct.kind, AOp.kind, wpRes, evRes, resV, AOp.ev, bin, binI, binS, shiftI, eqV, un, bound, boundO, fill, fillRows, aggOf, keyEq, findKey, putKey, V.cells, V.flat, byteOf, bytesOf, rdOf, H.wr, H.kOf, splice, isYl, ↓reduceIte, Nat.reduceEqDiff, Nat.reduceLeDiff, Nat.reduceLT, Nat.reduceAdd, Nat.reduceSub, Nat.reduceMul, Int.reduceLT, Int.reduceLE, Int.reduceEq, Int.reduceAdd, Int.reduceSub, Int.reduceMul, Int.reduceNeg, Int.reduceToNat, reduceCtorEq, t13, t12, t10, t11, t2, t8, t7, hi1, hi2, hi3, g4, hx, x3, hg, wi, p2, p3, f0, q2a]
                      refine Runs.mono (c := .fn 10) («as» := [.p (some (base.nx + 17, 0, 0))] ++ []) (runs_of_wpF (pr := prT) (af := Am.c_endpoint_End_Closed) rfl (by kernel_rfl) (closed_walk hc c17)) ?_
                      rintro v2 g2 ⟨rfl, rfl⟩
                      simp only [↓STEP, SB, looked, behind, lookOk, AAct.kind, AOp.kind, wpRes, evRes, resV, AOp.ev, bin, binI, binS, shiftI, eqV, un, bound, boundO, fill, fillRows, aggOf, keyEq, findKey, putKey, V.cells, V.flat, byteOf, bytesOf, rdOf, H.wr, H.kOf, splice, isYl, ↓reduceIte, Nat.reduceEqDiff, Nat.reduceLeDiff, Nat.reduceLT, Nat.reduceAdd, Nat.reduceSub, Nat.reduceMul, Int.reduceLT, Int.reduceLE, Int.reduceEq, Int.reduceAdd, Int.reduceSub, Int.reduceMul, Int.reduceNeg, Int.reduceToNat, reduceCtorEq, wi,  t13]
                      refine ⟨m - 1, by omega, i + 1, now, by omega, ?_, ?_, ?_, ?_, ?_, ?_, ?_, by omega, hS'⟩
                      all_goals (simp only [↓STEP, SB, looked, behind, lookOk, AAct.kind, AOp.kind, wpRes, evRes, resV, AOp.ev, bin, binI, binS, shiftI, eqV, un, bound, boundO, fill, fillRows, aggOf, keyEq, findKey, putKey, V.cells, V.flat, byteOf, bytesOf, rdOf, H.wr, H.kOf, splice, isYl, ↓reduceIte, Nat.reduceEqDiff, Nat.reduceLeDiff, Nat.reduceLT, Nat.reduceAdd, Nat.reduceSub, Nat.reduceMul, Int.reduceLT, Int.reduceLE, Int.reduceEq, Int.reduceAdd, Int.reduceSub, Int.reduceMul, Int.reduceNeg, Int.reduceToNat, reduceCtorEq, t12, t10, t11, t2, t8, t7] <;> rfl)
                  · rw [if_neg p1] at hS' c17
                    have f0 : b ≥ 0 := by omega
                    by_cases q2 : b ≤ now
                    · have q2a : now ≥ b := q2
                      rw [if_pos ⟨f0, q2⟩] at c17
                      simp only [↓STEP, SB, looked, behind, lookOk, AAct.kind, AOp.kind, wpRes, evRes, resV, AOp.ev, bin, binI, binS, shiftI, eqV, un, bound, boundO, fill, fillRows, aggOf, keyEq, findKey, putKey, V.cells, V.flat, byteOf, bytesOf, rdOf, H.wr, H.kOf, splice, isYl, ↓reduceIte, Nat.reduceEqDiff, Nat.reduceLeDiff, Nat.reduceLT, Nat.reduceAdd, Nat.reduceSub, Nat.reduceMul, Int.reduceLT, Int.reduceLE, Int.reduceEq, Int.reduceAdd, Int.reduceSub, Int.reduceMul, Int.reduceNeg, Int.reduceToNat, reduceCtorEq, t13, t12, t10, t11, t2, t8, t7, hi1, hi2, hi3, g4, hx, x3, hg, wi, p2, f0, q2a]
                      refine Runs.mono (c := .fn 10) («as» := [.p (some (base.nx + 17, 0, 0))] ++ []) (runs_of_wpF (pr := prT) (af := Am.c_endpoint_End_Closed) rfl (by kernel_rfl) (closed_walk hc c17)) ?_
                      rintro v2 g2 ⟨rfl, rfl⟩
                      simp only [↓STEP, SB, looked, behind, lookOk, AAct.kind, AOp.kind, wpRes, evRes, resV, AOp.ev, bin, binI, binS, shiftI, eqV, un, bound, boundO, fill, fillRows, aggOf, keyEq, findKey, putKey, V.cells, V.flat, byteOf, bytesOf, rdOf, H.wr, H.kOf, splice, isYl, ↓reduceIte, Nat.reduceEqDiff, Nat.reduceLeDiff, Nat.reduceLT, Nat.reduceAdd, Nat.reduceSub, Nat.reduceMul, Int.reduceLT, Int.reduceLE, Int.reduceEq, Int.reduceAdd, Int.reduceSub, Int.reduceMul, Int.reduceNeg, Int.reduceToNat, reduceCtorEq, wi,  t13]
                      refine ⟨m - 1, by omega, i + 1, now, by omega, ?_, ?_, ?_, ?_, ?_, ?_, ?_, by omega, hS'⟩
                      all_goals (simp only [↓STEP, SB, looked, behind, lookOk, AAct.kind, AOp.kind, wpRes, evRes, resV, AOp.ev, bin, binI, binS, shiftI, eqV, un, bound, boundO, fill, fillRows, aggOf, keyEq, findKey, putKey, V.cells, V.flat, byteOf, bytesOf, rdOf, H.wr, H.kOf, splice, isYl, ↓reduceIte, Nat.reduceEqDiff, Nat.reduceLeDiff, Nat.reduceLT, Nat.reduceAdd, Nat.reduceSub, Nat.reduceMul, Int.reduceLT, Int.reduceLE, Int.reduceEq, Int.reduceAdd, Int.reduceSub, Int.reduceMul, Int.reduceNeg, Int.reduceToNat, reduceCtorEq, t12, t10, t11, t2, t8, t7] <;> rfl)
                    · have q2a : ¬ now ≥ b := q2
                      rw [if_neg (fun q => q2 q.2)] at c17
                      simp only [↓STEP, SB, looked, behind, lookOk, AAct.kind, AOp.kind, wpRes, evRes, resV, AOp.ev, bin, binI, binS, shiftI, eqV, un, bound, boundO, fill, fillRows, aggOf, keyEq, findKey, putKey, V.cells, V.flat, byteOf, bytesOf, rdOf, H.wr, H.kOf, splice, isYl, ↓reduceIte, Nat.reduceEqDiff, Nat.reduceLeDiff, Nat.reduceLT, Nat.reduceAdd, Nat.reduceSub, Nat.reduceMul, Int.reduceLT, Int.reduceLE, Int.reduceEq, Int.reduceAdd, Int.reduceSub, Int.reduceMul, Int.reduceNeg, Int.reduceToNat, reduceCtorEq, t13, t12, t10, t11, t2, t8, t7, hi1, hi2, hi3, g4, hx, x3, hg, wi, p2, f0, q2a]
                      refine Runs.mono (c := .fn 10) («as» := [.p (some (base.nx + 17, 0, 0))] ++ []) (runs_of_wpF (pr := prT) (af := Am.c_endpoint_End_Closed) rfl (by kernel_rfl) (closed_walk hc c17)) ?_
                      rintro v2 g2 ⟨rfl, rfl⟩
                      simp only [↓STEP, SB, looked, behind, lookOk, AAct.kind, AOp.kind, wpRes, evRes, resV, AOp.ev, bin, binI, binS, shiftI, eqV, un, bound, boundO, fill, fillRows, aggOf, keyEq, findKey, putKey, V.cells, V.flat, byteOf, bytesOf, rdOf, H.wr, H.kOf, splice, isYl, ↓reduceIte, Nat.reduceEqDiff, Nat.reduceLeDiff, Nat.reduceLT, Nat.reduceAdd, Nat.reduceSub, Nat.reduceMul, Int.reduceLT, Int.reduceLE, Int.reduceEq, Int.reduceAdd, Int.reduceSub, Int.reduceMul, Int.reduceNeg, Int.reduceToNat, reduceCtorEq, wi,  t13]
                      refine ⟨m - 1, by omega, i + 1, now, by omega, ?_, ?_, ?_, ?_, ?_, ?_, ?_, by omega, hS'⟩
                      all_goals (simp only [↓STEP, SB, looked, behind, lookOk, AAct.kind, AOp.kind, wpRes, evRes, resV, AOp.ev, bin, binI, binS, shiftI, eqV, un, bound, boundO, fill, fillRows, aggOf, keyEq, findKey, putKey, V.cells, V.flat, byteOf, bytesOf, rdOf, H.wr, H.kOf, splice, isYl, ↓reduceIte, Nat.reduceEqDiff, Nat.reduceLeDiff, Nat.reduceLT, Nat.reduceAdd, Nat.reduceSub, Nat.reduceMul, Int.reduceLT, Int.reduceLE, Int.reduceEq, Int.reduceAdd, Int.reduceSub, Int.reduceMul, Int.reduceNeg, Int.reduceToNat, reduceCtorEq, t12, t10, t11, t2, t8, t7] <;> rfl)
              · by_cases hi1 : i < l.length
                · have hi1' : (i : Int) < (l.length : Int) := by omega
                  have hi2 : ¬ (i : Int) < 20 := by omega
                  simp only [↓STEP, SB, looked, behind, lookOk, AAct.kind, AOp.kind, wpRes, evRes, resV, AOp.ev, bin, binI, binS, shiftI, eqV, un, bound, boundO, fill, fillRows, aggOf, keyEq, findKey, putKey, V.cells, V.flat, byteOf, bytesOf, rdOf, H.wr, H.kOf, splice, isYl, ↓reduceIte, Nat.reduceEqDiff, Nat.reduceLeDiff, Nat.reduceLT, Nat.reduceAdd, Nat.reduceSub, Nat.reduceMul, Int.reduceLT, Int.reduceLE, Int.reduceEq, Int.reduceAdd, Int.reduceSub, Int.reduceMul, Int.reduceNeg, Int.reduceToNat, reduceCtorEq, t13, t12, t10, t11, t2, t8, t7, hi1', hi2]
                · have hi1' : ¬ (i : Int) < (l.length : Int) := by omega
                  simp only [↓STEP, SB, looked, behind, lookOk, AAct.kind, AOp.kind, wpRes, evRes, resV, AOp.ev, bin, binI, binS, shiftI, eqV, un, bound, boundO, fill, fillRows, aggOf, keyEq, findKey, putKey, V.cells, V.flat, byteOf, bytesOf, rdOf, H.wr, H.kOf, splice, isYl, ↓reduceIte, Nat.reduceEqDiff, Nat.reduceLeDiff, Nat.reduceLT, Nat.reduceAdd, Nat.reduceSub, Nat.reduceMul, Int.reduceLT, Int.reduceLE, Int.reduceEq, Int.reduceAdd, Int.reduceSub, Int.reduceMul, Int.reduceNeg, Int.reduceToNat, reduceCtorEq, t13, t12, t10, t11, t2, t8, t7, hi1']
          all_goals (simp only [↓STEP, SB, looked, behind, lookOk, AAct.kind, AOp.kind, wpRes, evRes, resV, AOp.ev, bin, binI, binS, shiftI, eqV, un, bound, boundO, fill, fillRows, aggOf, keyEq, findKey, putKey, V.cells, V.flat, byteOf, bytesOf, rdOf, H.wr, H.kOf, splice, isYl, ↓reduceIte, Nat.reduceEqDiff, Nat.reduceLeDiff, Nat.reduceLT, Nat.reduceAdd, Nat.reduceSub, Nat.reduceMul, Int.reduceLT, Int.reduceLE, Int.reduceEq, Int.reduceAdd, Int.reduceSub, Int.reduceMul, Int.reduceNeg, Int.reduceToNat, reduceCtorEq])
          all_goals rfl
        · simp only [↓STEP, SB, looked, behind, lookOk, AAct.kind, AOp.kind, wpRes, evRes, resV, AOp.ev, bin, binI, binS, shiftI, eqV, un, bound, boundO, fill, fillRows, aggOf, keyEq, findKey, putKey, V.cells, V.flat, byteOf, bytesOf, rdOf, H.wr, H.kOf, splice, isYl, ↓reduceIte, Nat.reduceEqDiff, Nat.reduceLeDiff, Nat.reduceLT, Nat.reduceAdd, Nat.reduceSub, Nat.reduceMul, Int.reduceLT, Int.reduceLE, Int.reduceEq, Int.reduceAdd, Int.reduceSub, Int.reduceMul, Int.reduceNeg, Int.reduceToNat, reduceCtorEq, g1, c1', c2', c3, c4]
          refine wpA_loop_inv (LoopI base role (tOf a b 0 d 0) (a) (2) sl l.length) ?_ (m := l.length) (key (a) (2) (s1 c1 (fun q => c4 q.2)) _ ?_ ?_ ?_ ?_ ?_ ?_ ?_)
          · rintro m t h ⟨i, now, him, t13, t12, t10, t11, t2, t8, t7, hnow, hS⟩
            rcases hs with ⟨rfl, x, y, z, rfl⟩ | ⟨ro, gb, rfl, hbn⟩
            · obtain rfl : i = 0 := by simp at him; omega
              simp only [↓STEP, SB, looked, behind, lookOk, AAct.kind, AOp.kind, wpRes, evRes, resV, AOp.ev, bin, binI, binS, shiftI, eqV, un, bound, boundO, fill, fillRows, aggOf, keyEq, findKey, putKey, V.cells, V.flat, byteOf, bytesOf, rdOf, H.wr, H.kOf, splice, isYl, ↓reduceIte, Nat.reduceEqDiff, Nat.reduceLeDiff, Nat.reduceLT, Nat.reduceAdd, Nat.reduceSub, Nat.reduceMul, Int.reduceLT, Int.reduceLE, Int.reduceEq, Int.reduceAdd, Int.reduceSub, Int.reduceMul, Int.reduceNeg, Int.reduceToNat, reduceCtorEq, t13, t12, t10, t11, t2, t8, t7]
            · by_cases hi : i < l.length ∧ i < 20
              · have hi1 : (i : Int) < (l.length : Int) := by omega
                have hi2 : (i : Int) < 20 := by omega
                have hi3 : (0 : Int) ≤ (i : Int) := by omega
                have hx : (l.map fun n => [V.i .i64 n])[i]? = some [V.i .i64 (l[i]'hi.1)] := by rw [List.getElem?_map, List.getElem?_eq_getElem hi.1]; rfl
                generalize l[i]'hi.1 = x at hx
                have g4 := hS.1.2 _ gb hbn
                obtain ⟨v', h', hg, hS', c', hc, c17⟩ := tick_stand (x := x) hok.2 (s1 c1 (fun q => c4 q.2)) hS
                have wi : IntKind.wrap .i64 ((i : Int) + 1) = i + 1 := wrap_i64 (by omega) (by omega)
                by_cases p1 : now ≤ x ∧ x ≤ 1099511627776
                · have p1a : x ≥ now := p1.1
                  rw [if_pos p1] at hS' c17
                  have f0 : a ≥ 0 := by omega
                  by_cases q2 : a ≤ x
                  · have q2a : x ≥ a := q2
                    rw [if_pos ⟨f0, q2⟩] at c17
                    simp only [↓STEP, SB, looked, behind, lookOk, AAct.kind, AOp.kind, wpRes, evRes, resV, AOp.ev, bin, binI, binS, shiftI, eqV, un, bound, boundO, fill, fillRows, aggOf, keyEq, findKey, putKey, V.cells, V.flat, byteOf, bytesOf, rdOf, H.wr, H.kOf, splice, isYl, ↓reduceIte, Nat.reduceEqDiff, Nat.reduceLeDiff, Nat.reduceLT, Nat.reduceAdd, Nat.reduceSub, Nat.reduceMul, Int.reduceLT, Int.reduceLE, Int.reduceEq, Int.reduceAdd, Int.reduceSub, Int.reduceMul, Int.reduceNeg, Int.reduceToNat, reduceCtorEq, t13, t12, t10, t11, t2, t8, t7, hi1, hi2, hi3, g4, hx, x3, hg, wi, p1a, p1.2, f0, q2a]
                    refine Runs.mono (c := .fn 10) («as» := [.p (some (base.nx + 17, 0, 0))] ++ []) (runs_of_wpF (pr := prT) (af := Am.c_endpoint_End_Closed) rfl (by kernel_rfl) (closed_walk hc c17)) ?_
                    rintro v2 g2 ⟨rfl, rfl⟩
                    simp only [↓STEP, SB, looked, behind, lookOk, AAct.kind, AOp.kind, wpRes, evRes, resV, AOp.ev, bin, binI, binS, shiftI, eqV, un, bound, boundO, fill, fillRows, aggOf, keyEq, findKey, putKey, V.cells, V.flat, byteOf, bytesOf, rdOf, H.wr, H.kOf, splice, isYl, ↓reduceIte, Nat.reduceEqDiff, Nat.reduceLeDiff, Nat.reduceLT, Nat.reduceAdd, Nat.reduceSub, Nat.reduceMul, Int.reduceLT, Int.reduceLE, Int.reduceEq, Int.reduceAdd, Int.reduceSub, Int.reduceMul, Int.reduceNeg, Int.reduceToNat, reduceCtorEq, wi,  t13]
                    refine ⟨m - 1, by omega, i + 1, x, by omega, ?_, ?_, ?_, ?_, ?_, ?_, ?_, by omega, hS'⟩
                    all_goals (simp only [↓STEP, SB, looked, behind, lookOk, AAct.kind, AOp.kind, wpRes, evRes, resV, AOp.ev, bin, binI, binS, shiftI, eqV, un, bound, boundO, fill, fillRows, aggOf, keyEq, findKey, putKey, V.cells, V.flat, byteOf, bytesOf, rdOf, H.wr, H.kOf, splice, isYl, ↓reduceIte, Nat.reduceEqDiff, Nat.reduceLeDiff, Nat.reduceLT, Nat.reduceAdd, Nat.reduceSub, Nat.reduceMul, Int.reduceLT, Int.reduceLE, Int.reduceEq, Int.reduceAdd, Int.reduceSub, Int.reduceMul, Int.reduceNeg, Int.reduceToNat, reduceCtorEq, t12, t10, t11, t2, t8, t7] <;> rfl)
                  · have q2a : ¬ x ≥ a := q2
                    rw [if_neg (fun q => q2 q.2)] at c17
                    simp only [↓STEP, SB, looked, behind, lookOk, AAct.kind, AOp.kind, wpRes, evRes, resV, AOp.ev, bin, binI, binS, shiftI, eqV, un, bound, boundO, fill, fillRows, aggOf, keyEq, findKey, putKey, V.cells, V.flat, byteOf, bytesOf, rdOf, H.wr, H.kOf, splice, isYl, ↓reduceIte, Nat.reduceEqDiff, Nat.reduceLeDiff, Nat.reduceLT, Nat.reduceAdd, Nat.reduceSub, Nat.reduceMul, Int.reduceLT, Int.reduceLE, Int.reduceEq, Int.reduceAdd, Int.reduceSub, Int.reduceMul, Int.reduceNeg, Int.reduceToNat, reduceCtorEq, t13, t12, t10, t11, t2, t8, t7, hi1, hi2, hi3, g4, hx, x3, hg, wi, p1a, p1.2, f0, q2a]
                    refine Runs.mono (c := .fn 10) («as» := [.p (some (base.nx + 17, 0, 0))] ++ []) (runs_of_wpF (pr := prT) (af := Am.c_endpoint_End_Closed) rfl (by kernel_rfl) (closed_walk hc c17)) ?_
                    rintro v2 g2 ⟨rfl, rfl⟩
                    simp only [↓STEP, SB, looked, behind, lookOk, AAct.kind, AOp.kind, wpRes, evRes, resV, AOp.ev, bin, binI, binS, shiftI, eqV, un, bound, boundO, fill, fillRows, aggOf, keyEq, findKey, putKey, V.cells, V.flat, byteOf, bytesOf, rdOf, H.wr, H.kOf, splice, isYl, ↓reduceIte, Nat.reduceEqDiff, Nat.reduceLeDiff, Nat.reduceLT, Nat.reduceAdd, Nat.reduceSub, Nat.reduceMul, Int.reduceLT, Int.reduceLE, Int.reduceEq, Int.reduceAdd, Int.reduceSub, Int.reduceMul, Int.reduceNeg, Int.reduceToNat, reduceCtorEq, wi,  t13]
                    refine ⟨m - 1, by omega, i + 1, x, by omega, ?_, ?_, ?_, ?_, ?_, ?_, ?_, by omega, hS'⟩
                    all_goals (simp only [↓STEP, SB, looked, behind, lookOk, AAct.kind, AOp.kind, wpRes, evRes, resV, AOp.ev, bin, binI, binS, shiftI, eqV, un, bound, boundO, fill, fillRows, aggOf, keyEq, findKey, putKey, V.cells, V.flat, byteOf, bytesOf, rdOf, H.wr, H.kOf, splice, isYl, ↓reduceIte, Nat.reduceEqDiff, Nat.reduceLeDiff, Nat.reduceLT, Nat.reduceAdd, Nat.reduceSub, Nat.reduceMul, Int.reduceLT, Int.reduceLE, Int.reduceEq, Int.reduceAdd, Int.reduceSub, Int.reduceMul, Int.reduceNeg, Int.reduceToNat, reduceCtorEq, t12, t10, t11, t2, t8, t7] <;> rfl)
                · by_cases p2 : x ≥ now
                  · have p3 : ¬ x ≤ 1099511627776 := fun q => p1 ⟨p2, q⟩
                    rw [if_neg p1] at hS' c17
                    have f0 : a ≥ 0 := by omega
                    by_cases q2 : a ≤ now
                    · have q2a : now ≥ a := q2
                      rw [if_pos ⟨f0, q2⟩] at c17
                      simp only [↓STEP, SB, looked, behind, lookOk, AAct.kind, AOp.kind, wpRes, evRes, resV, AOp.ev, bin, binI, binS, shiftI, eqV, un, bound, boundO, fill, fillRows, aggOf, keyEq, findKey, putKey, V.cells, V.flat, byteOf, bytesOf, rdOf, H.wr, H.kOf, splice, isYl, ↓reduceIte, Nat.reduceEqDiff, Nat.reduceLeDiff, Nat.reduceLT, Nat.reduceAdd, Nat.reduceSub, Nat.reduceMul, Int.reduceLT, Int.reduceLE, Int.reduceEq, Int.reduceAdd, Int.reduceSub, Int.reduceMul, Int.reduceNeg, Int.reduceToNat, reduceCtorEq, t13, t12, t10, t11, t2, t8, t7, hi1, hi2, hi3, g4, hx, x3, hg, wi, p2, p3, f0, q2a]
                      refine Runs.mono (c := .fn 10) («as» := [.p (some (base.nx + 17, 0, 0))] ++ []) (runs_of_wpF (pr := prT) (af := Am.c_endpoint_End_Closed) rfl (by kernel_rfl) (closed_walk hc c17)) ?_
                      rintro v2 g2 ⟨rfl, rfl⟩
                      simp only [↓STEP, SB, looked, behind, lookOk, AAct.kind, AOp.kind, wpRes, evRes, resV, AOp.ev, bin, binI, binS, shiftI, eqV, un, bound, boundO, fill, fillRows, aggOf, keyEq, findKey, putKey, V.cells, V.flat, byteOf, bytesOf, rdOf, H.wr, H.kOf, splice, isYl, ↓reduceIte, Nat.reduceEqDiff, Nat.reduceLeDiff, Nat.reduceLT, Nat.reduceAdd, Nat.reduceSub, Nat.reduceMul, Int.reduceLT, Int.reduceLE, Int.reduceEq, Int.reduceAdd, Int.reduceSub, Int.reduceMul, Int.reduceNeg, Int.reduceToNat, reduceCtorEq, wi,  t13]
                      refine ⟨m - 1, by omega, i + 1, now, by omega, ?_, ?_, ?_, ?_, ?_, ?_, ?_, by omega, hS'⟩
                      all_goals (simp only [↓STEP, SB, looked, behind, lookOk, AAct.kind, AOp.kind, wpRes, evRes, resV, AOp.ev, bin, binI, binS, shiftI, eqV, un, bound, boundO, fill, fillRows, aggOf, keyEq, findKey, putKey, V.cells, V.flat, byteOf, bytesOf, rdOf, H.wr, H.kOf, splice, isYl, ↓reduceIte, Nat.reduceEqDiff, Nat.reduceLeDiff, Nat.reduceLT, Nat.reduceAdd, Nat.reduceSub, Nat.reduceMul, Int.reduceLT, Int.reduceLE, Int.reduceEq, Int.reduceAdd, Int.reduceSub, Int.reduceMul, Int.reduceNeg, Int.reduceToNat, reduceCtorEq, t12, t10, t11, t2, t8, t7] <;> rfl)
                    · have q2a : ¬ now ≥ a := q2
                      rw [if_neg (fun q => q2 q.2)] at c17
                      simp only [↓STEP, SB, looked, behind, lookOk, AAct.kind, AOp.kind, wpRes, evRes, resV, AOp.ev, bin, binI, binS, shiftI, eqV, un, bound, boundO, fill, fillRows, aggOf, keyEq, findKey, putKey, V.cells, V.flat, byteOf, bytesOf, rdOf, H.wr, H.kOf, splice, isYl, ↓reduceIte, Nat.reduceEqDiff, Nat.reduceLeDiff, Nat.reduceLT, Nat.reduceAdd, Nat.reduceSub, Nat.reduceMul, Int.reduceLT, Int.reduceLE, Int.reduceEq, Int.reduceAdd, Int.reduceSub, Int.reduceMul, Int.reduceNeg, Int.reduceToNat, reduceCtorEq, t13, t12, t10, t11, t2, t8, t7, hi1, hi2, hi3, g4, hx, x3, hg, wi, p2, p3, f0, q2a]
                      refine Runs.mono (c := .fn 10) («as» := [.p (some (base.nx + 17, 0, 0))] ++ []) (runs_of_wpF (pr := prT) (af := Am.c_endpoint_End_Closed) rfl (by kernel_rfl) (closed_walk hc c17)) ?_
                      rintro v2 g2 ⟨rfl, rfl⟩
                      simp only [↓STEP, SB, looked, behind, lookOk, AAct.kind, AOp.kind, wpRes, evRes, resV, AOp.ev, bin, binI, binS, shiftI, eqV, un, bound, boundO, fill, fillRows, aggOf, keyEq, findKey, putKey, V.cells, V.flat, byteOf, bytesOf, rdOf, H.wr, H.kOf, splice, isYl, ↓reduceIte, Nat.reduceEqDiff, Nat.reduceLeDiff, Nat.reduceLT, Nat.reduceAdd, Nat.reduceSub, Nat.reduceMul, Int.reduceLT, Int.reduceLE, Int.reduceEq, Int.reduceAdd, Int.reduceSub, Int.reduceMul, Int.reduceNeg, Int.reduceToNat, reduceCtorEq, wi,  t13]
                      refine ⟨m - 1, by omega, i + 1, now, by omega, ?_, ?_, ?_, ?_, ?_, ?_, ?_, by omega, hS'⟩
                      all_goals (simp only [↓STEP, SB, looked, behind, lookOk, AAct.kind, AOp.kind, wpRes, evRes, resV, AOp.ev, bin, binI, binS, shiftI, eqV, un, bound, boundO, fill, fillRows, aggOf, keyEq, findKey, putKey, V.cells, V.flat, byteOf, bytesOf, rdOf, H.wr, H.kOf, splice, isYl, ↓reduceIte, Nat.reduceEqDiff, Nat.reduceLeDiff, Nat.reduceLT, Nat.reduceAdd, Nat.reduceSub, Nat.reduceMul, Int.reduceLT, Int.reduceLE, Int.reduceEq, Int.reduceAdd, Int.reduceSub, Int.reduceMul, Int.reduceNeg, Int.reduceToNat, reduceCtorEq, t12, t10, t11, t2, t8, t7] <;> rfl)
                  · rw [if_neg p1] at hS' c17
                    have f0 : a ≥ 0 := by omega
                    by_cases q2 : a ≤ now
                    · have q2a : now ≥ a := q2
                      rw [if_pos ⟨f0, q2⟩] at c17
                      simp only [↓STEP, SB, looked, behind, lookOk, AAct.kind, AOp.kind, wpRes, evRes, resV, AOp.ev, bin, binI, binS, shiftI, eqV, un, bound, boundO, fill, fillRows, aggOf, keyEq, findKey, putKey, V.cells, V.flat, byteOf, bytesOf, rdOf, H.wr, H.kOf, splice, isYl, ↓reduceIte, Nat.reduceEqDiff, Nat.reduceLeDiff, Nat.reduceLT, Nat.reduceAdd, Nat.reduceSub, Nat.reduceMul, Int.reduceLT, Int.reduceLE, Int.reduceEq, Int.reduceAdd, Int.reduceSub, Int.reduceMul, Int.reduceNeg, Int.reduceToNat, reduceCtorEq, t13, t12, t10, t11, t2, t8, t7, hi1, hi2, hi3, g4, hx, x3, hg, wi, p2, f0, q2a]
                      refine Runs.mono (c := .fn 10) («as» := [.p (some (base.nx + 17, 0, 0))] ++ []) (runs_of_wpF (pr := prT) (af := Am.c_endpoint_End_Closed) rfl (by kernel_rfl) (closed_walk hc c17)) ?_
                      rintro v2 g2 ⟨rfl, rfl⟩
                      simp only [↓STEP, SB, looked, behind, lookOk, AAct.kind, AOp.kind, wpRes, evRes, resV, AOp.ev, bin, binI, binS, shiftI, eqV, un, bound, boundO, fill, fillRows, aggOf, keyEq, findKey, putKey, V.cells, V.flat, byteOf, bytesOf, rdOf, H.wr, H.kOf, splice, isYl, ↓reduceIte, Nat.reduceEqDiff, Nat.reduceLeDiff, Nat.reduceLT, Nat.reduceAdd, Nat.reduceSub, Nat.reduceMul, Int.reduceLT, Int.reduceLE, Int.reduceEq, Int.reduceAdd, Int.reduceSub, Int.reduceMul, Int.reduceNeg, Int.reduceToNat, reduceCtorEq, wi,  t13]
                      refine ⟨m - 1, by omega, i + 1, now, by omega, ?_, ?_, ?_, ?_, ?_, ?_, ?_, by omega, hS'⟩
                      all_goals (simp only [↓STEP, SB, looked, behind, lookOk, AAct.kind, AOp.kind, wpRes, evRes, resV, AOp.ev, bin, binI, binS, shiftI, eqV, un, bound, boundO, fill, fillRows, aggOf, keyEq, findKey, putKey, V.cells, V.flat, byteOf, bytesOf, rdOf, H.wr, H.kOf, splice, isYl, ↓reduceIte, Nat.reduceEqDiff, Nat.reduceLeDiff, Nat.reduceLT, Nat.reduceAdd, Nat.reduceSub, Nat.reduceMul, Int.reduceLT, Int.reduceLE, Int.reduceEq, Int.reduceAdd, Int.reduceSub, Int.reduceMul, Int.reduceNeg, Int.reduceToNat, reduceCtorEq, t12, t10, t11, t2, t8, t7] <;> rfl)
                    · have q2a : ¬ now ≥ a := q2
                      rw [if_neg (fun q => q2 q.2)] at c17
                      simp only [↓STEP, SB, looked, behind, lookOk, AAct.kind, AOp.kind, wpRes, evRes, resV, AOp.ev, bin, binI, binS, shiftI, eqV, un, bound, boundO, fill, fillRows, aggOf, keyEq, findKey, putKey, V.cells, V.flat, byteOf, bytesOf, rdOf, H.wr, H.kOf, splice, isYl, ↓reduceIte, Nat.reduceEqDiff, Nat.reduceLeDiff, Nat.reduceLT, Nat.reduceAdd, Nat.reduceSub, Nat.reduceMul, Int.reduceLT, Int.reduceLE, Int.reduceEq, Int.reduceAdd, Int.reduceSub, Int.reduceMul, Int.reduceNeg, Int.reduceToNat, reduceCtorEq, t13, t12, t10, t11, t2, t8, t7, hi1, hi2, hi3, g4, hx, x3, hg, wi, p2, f0, q2a]
                      refine Runs.mono (c := .fn 10) («as» := [.p (some (base.nx + 17, 0, 0))] ++ []) (runs_of_wpF (pr := prT) (af := Am.c_endpoint_End_Closed) rfl (by kernel_rfl) (closed_walk hc c17)) ?_
                      rintro v2 g2 ⟨rfl, rfl⟩
                      simp only [↓STEP, SB, looked, behind, lookOk, AAct.kind, AOp.kind, wpRes, evRes, resV, AOp.ev, bin, binI, binS, shiftI, eqV, un, bound, boundO, fill, fillRows, aggOf, keyEq, findKey, putKey, V.cells, V.flat, byteOf, bytesOf, rdOf, H.wr, H.kOf, splice, isYl, ↓reduceIte, Nat.reduceEqDiff, Nat.reduceLeDiff, Nat.reduceLT, Nat.reduceAdd, Nat.reduceSub, Nat.reduceMul, Int.reduceLT, Int.reduceLE, Int.reduceEq, Int.reduceAdd, Int.reduceSub, Int.reduceMul, Int.reduceNeg, Int.reduceToNat, reduceCtorEq, wi,  t13]
                      refine ⟨m - 1, by omega, i + 1, now, by omega, ?_, ?_, ?_, ?_, ?_, ?_, ?_, by omega, hS'⟩
                      all_goals (simp only [↓STEP, SB, looked, behind, lookOk, AAct.kind, AOp.kind, wpRes, evRes, resV, AOp.ev, bin, binI, binS, shiftI, eqV, un, bound, boundO, fill, fillRows, aggOf, keyEq, findKey, putKey, V.cells, V.flat, byteOf, bytesOf, rdOf, H.wr, H.kOf, splice, isYl, ↓reduceIte, Nat.reduceEqDiff, Nat.reduceLeDiff, Nat.reduceLT, Nat.reduceAdd, Nat.reduceSub, Nat.reduceMul, Int.reduceLT, Int.reduceLE, Int.reduceEq, Int.reduceAdd, Int.reduceSub, Int.reduceMul, Int.reduceNeg, Int.reduceToNat, reduceCtorEq, t12, t10, t11, t2, t8, t7] <;> rfl)
              · by_cases hi1 : i < l.length
                · have hi1' : (i : Int) < (l.length : Int) := by omega
                  have hi2 : ¬ (i : Int) < 20 := by omega
                  simp only [↓STEP, SB, looked, behind, lookOk, AAct.kind, AOp.kind, wpRes, evRes, resV, AOp.ev, bin, binI, binS, shiftI, eqV, un, bound, boundO, fill, fillRows, aggOf, keyEq, findKey, putKey, V.cells, V.flat, byteOf, bytesOf, rdOf, H.wr, H.kOf, splice, isYl, ↓reduceIte, Nat.reduceEqDiff, Nat.reduceLeDiff, Nat.reduceLT, Nat.reduceAdd, Nat.reduceSub, Nat.reduceMul, Int.reduceLT, Int.reduceLE, Int.reduceEq, Int.reduceAdd, Int.reduceSub, Int.reduceMul, Int.reduceNeg, Int.reduceToNat, reduceCtorEq, t13, t12, t10, t11, t2, t8, t7, hi1', hi2]
                · have hi1' : ¬ (i : Int) < (l.length : Int) := by omega
                  simp only [↓STEP, SB, looked, behind, lookOk, AAct.kind, AOp.kind, wpRes, evRes, resV, AOp.ev, bin, binI, binS, shiftI, eqV, un, bound, boundO, fill, fillRows, aggOf, keyEq, findKey, putKey, V.cells, V.flat, byteOf, bytesOf, rdOf, H.wr, H.kOf, splice, isYl, ↓reduceIte, Nat.reduceEqDiff, Nat.reduceLeDiff, Nat.reduceLT, Nat.reduceAdd, Nat.reduceSub, Nat.reduceMul, Int.reduceLT, Int.reduceLE, Int.reduceEq, Int.reduceAdd, Int.reduceSub, Int.reduceMul, Int.reduceNeg, Int.reduceToNat, reduceCtorEq, t13, t12, t10, t11, t2, t8, t7, hi1']
          all_goals (simp only [↓STEP, SB, looked, behind, lookOk, AAct.kind, AOp.kind, wpRes, evRes, resV, AOp.ev, bin, binI, binS, shiftI, eqV, un, bound, boundO, fill, fillRows, aggOf, keyEq, findKey, putKey, V.cells, V.flat, byteOf, bytesOf, rdOf, H.wr, H.kOf, splice, isYl, ↓reduceIte, Nat.reduceEqDiff, Nat.reduceLeDiff, Nat.reduceLT, Nat.reduceAdd, Nat.reduceSub, Nat.reduceMul, Int.reduceLT, Int.reduceLE, Int.reduceEq, Int.reduceAdd, Int.reduceSub, Int.reduceMul, Int.reduceNeg, Int.reduceToNat, reduceCtorEq])
          all_goals rfl
      · have c2' : ¬ b > 0 := c2
        simp only [↓STEP, SB, looked, behind, lookOk, AAct.kind, AOp.kind, wpRes, evRes, resV, AOp.ev, bin, binI, binS, shiftI, eqV, un, bound, boundO, fill, fillRows, aggOf, keyEq, findKey, putKey, V.cells, V.flat, byteOf, bytesOf, rdOf, H.wr, H.kOf, splice, isYl, ↓reduceIte, Nat.reduceEqDiff, Nat.reduceLeDiff, Nat.reduceLT, Nat.reduceAdd, Nat.reduceSub, Nat.reduceMul, Int.reduceLT, Int.reduceLE, Int.reduceEq, Int.reduceAdd, Int.reduceSub, Int.reduceMul, Int.reduceNeg, Int.reduceToNat, reduceCtorEq, g1, c1', c2', c3]
        refine wpA_loop_inv (LoopI base role (tOf a b 0 d 0) (a) (2) sl l.length) ?_ (m := l.length) (key (a) (2) (s1 c1 (fun q => c2 q.1)) _ ?_ ?_ ?_ ?_ ?_ ?_ ?_)
        · rintro m t h ⟨i, now, him, t13, t12, t10, t11, t2, t8, t7, hnow, hS⟩
          rcases hs with ⟨rfl, x, y, z, rfl⟩ | ⟨ro, gb, rfl, hbn⟩
          · obtain rfl : i = 0 := by simp at him; omega
            simp only [↓STEP, SB, looked, behind, lookOk, AAct.kind, AOp.kind, wpRes, evRes, resV, AOp.ev, bin, binI, binS, shiftI, eqV, un, bound, boundO, fill, fillRows, aggOf, keyEq, findKey, putKey, V.cells, V.flat, byteOf, bytesOf, rdOf, H.wr, H.kOf, splice, isYl, ↓reduceIte, Nat.reduceEqDiff, Nat.reduceLeDiff, Nat.reduceLT, Nat.reduceAdd, Nat.reduceSub, Nat.reduceMul, Int.reduceLT, Int.reduceLE, Int.reduceEq, Int.reduceAdd, Int.reduceSub, Int.reduceMul, Int.reduceNeg, Int.reduceToNat, reduceCtorEq, t13, t12, t10, t11, t2, t8, t7]
          · by_cases hi : i < l.length ∧ i < 20
            · have hi1 : (i : Int) < (l.length : Int) := by omega
              have hi2 : (i : Int) < 20 := by omega
              have hi3 : (0 : Int) ≤ (i : Int) := by omega
              have hx : (l.map fun n => [V.i .i64 n])[i]? = some [V.i .i64 (l[i]'hi.1)] := by rw [List.getElem?_map, List.getElem?_eq_getElem hi.1]; rfl
              generalize l[i]'hi.1 = x at hx
              have g4 := hS.1.2 _ gb hbn
              obtain ⟨v', h', hg, hS', c', hc, c17⟩ := tick_stand (x := x) hok.2 (s1 c1 (fun q => c2 q.1)) hS
              have wi : IntKind.wrap .i64 ((i : Int) + 1) = i + 1 := wrap_i64 (by omega) (by omega)
              by_cases p1 : now ≤ x ∧ x ≤ 1099511627776
              · have p1a : x ≥ now := p1.1
                rw [if_pos p1] at hS' c17
                have f0 : a ≥ 0 := by omega
                by_cases q2 : a ≤ x
                · have q2a : x ≥ a := q2
                  rw [if_pos ⟨f0, q2⟩] at c17
                  simp only [↓STEP, SB, looked, behind, lookOk, AAct.kind, AOp.kind, wpRes, evRes, resV, AOp.ev, bin, binI, binS, shiftI, eqV, un, bound, boundO, fill, fillRows, aggOf, keyEq, findKey, putKey, V.cells, V.flat, byteOf, bytesOf, rdOf, H.wr, H.kOf, splice, isYl, ↓reduceIte, Nat.reduceEqDiff, Nat.reduceLeDiff, Nat.reduceLT, Nat.reduceAdd, Nat.reduceSub, Nat.reduceMul, Int.reduceLT, Int.reduceLE, Int.reduceEq, Int.reduceAdd, Int.reduceSub, Int.reduceMul, Int.reduceNeg, Int.reduceToNat, reduceCtorEq, t13, t12, t10, t11, t2, t8, t7, hi1, hi2, hi3, g4, hx, x3, hg, wi, p1a, p1.2, f0, q2a]
                  refine Runs.mono (c := .fn 10) («as» := [.p (some (base.nx + 17, 0, 0))] ++ []) (runs_of_wpF (pr := prT) (af := Am.c_endpoint_End_Closed) rfl (by kernel_rfl) (closed_walk hc c17)) ?_
                  rintro v2 g2 ⟨rfl, rfl⟩
                  simp only [↓STEP, SB, looked, behind, lookOk, AAct.kind, AOp.kind, wpRes, evRes, resV, AOp.ev, bin, binI, binS, shiftI, eqV, un, bound, boundO, fill, fillRows, aggOf, keyEq, findKey, putKey, V.cells, V.flat, byteOf, bytesOf, rdOf, H.wr, H.kOf, splice, isYl, ↓reduceIte, Nat.reduceEqDiff, Nat.reduceLeDiff, Nat.reduceLT, Nat.reduceAdd, Nat.reduceSub, Nat.reduceMul, Int.reduceLT, Int.reduceLE, Int.reduceEq, Int.reduceAdd, Int.reduceSub, Int.reduceMul, Int.reduceNeg, Int.reduceToNat, reduceCtorEq, wi,  t13]
                  refine ⟨m - 1, by omega, i + 1, x, by omega, ?_, ?_, ?_, ?_, ?_, ?_, ?_, by omega, hS'⟩
                  all_goals (simp only [↓STEP, SB, looked, behind, lookOk, AAct.kind, AOp.kind, wpRes, evRes, resV, AOp.ev, bin, binI, binS, shiftI, eqV, un, bound, boundO, fill, fillRows, aggOf, keyEq, findKey, putKey, V.cells, V.flat, byteOf, bytesOf, rdOf, H.wr, H.kOf, splice, isYl, ↓reduceIte, Nat.reduceEqDiff, Nat.reduceLeDiff, Nat.reduceLT, Nat.reduceAdd, Nat.reduceSub, Nat.reduceMul, Int.reduceLT, Int.reduceLE, Int.reduceEq, Int.reduceAdd, Int.reduceSub, Int.reduceMul, Int.reduceNeg, Int.reduceToNat, reduceCtorEq, t12, t10, t11, t2, t8, t7] <;> rfl)
                · have q2a : ¬ x ≥ a := q2
                  rw [if_neg (fun q => q2 q.2)] at c17
                  simp only [↓STEP, SB, looked, behind, lookOk, AAct.kind, AOp.kind, wpRes, evRes, resV, AOp.ev, bin, binI, binS, shiftI, eqV, un, bound, boundO, fill, fillRows, aggOf, keyEq, findKey, putKey, V.cells, V.flat, byteOf, bytesOf, rdOf, H.wr, H.kOf, splice, isYl, ↓reduceIte, Nat.reduceEqDiff, Nat.reduceLeDiff, Nat.reduceLT, Nat.reduceAdd, Nat.reduceSub, Nat.reduceMul, Int.reduceLT, Int.reduceLE, Int.reduceEq, Int.reduceAdd, Int.reduceSub, Int.reduceMul, Int.reduceNeg, Int.reduceToNat, reduceCtorEq, t13, t12, t10, t11, t2, t8, t7, hi1, hi2, hi3, g4, hx, x3, hg, wi, p1a, p1.2, f0, q2a]
                  refine Runs.mono (c := .fn 10) («as» := [.p (some (base.nx + 17, 0, 0))] ++ []) (runs_of_wpF (pr := prT) (af := Am.c_endpoint_End_Closed) rfl (by kernel_rfl) (closed_walk hc c17)) ?_
                  rintro v2 g2 ⟨rfl, rfl⟩
                  simp only [↓STEP, SB, looked, behind, lookOk, AAct.kind, AOp.kind, wpRes, evRes, resV, AOp.ev, bin, binI, binS, shiftI, eqV, un, bound, boundO, fill, fillRows, aggOf, keyEq, findKey, putKey, V.cells, V.flat, byteOf, bytesOf, rdOf, H.wr, H.kOf, splice, isYl, ↓reduceIte, Nat.reduceEqDiff, Nat.reduceLeDiff, Nat.reduceLT, Nat.reduceAdd, Nat.reduceSub, Nat.reduceMul, Int.reduceLT, Int.reduceLE, Int.reduceEq, Int.reduceAdd, Int.reduceSub, Int.reduceMul, Int.reduceNeg, Int.reduceToNat, reduceCtorEq, wi,  t13]
                  refine ⟨m - 1, by omega, i + 1, x, by omega, ?_, ?_, ?_, ?_, ?_, ?_, ?_, by omega, hS'⟩
                  all_goals (simp only [↓STEP, SB, looked, behind, lookOk, AAct.kind, AOp.kind, wpRes, evRes, resV, AOp.ev, bin, binI, binS, shiftI, eqV, un, bound, boundO, fill, fillRows, aggOf, keyEq, findKey, putKey, V.cells, V.flat, byteOf, bytesOf, rdOf, H.wr, H.kOf, splice, isYl, ↓reduceIte, Nat.reduceEqDiff, Nat.reduceLeDiff, Nat.reduceLT, Nat.reduceAdd, Nat.reduceSub, Nat.reduceMul, Int.reduceLT, Int.reduceLE, Int.reduceEq, Int.reduceAdd, Int.reduceSub, Int.reduceMul, Int.reduceNeg, Int.reduceToNat, reduceCtorEq, t12, t10, t11, t2, t8, t7] <;> rfl)
              · by_cases p2 : x ≥ now
                · have p3 : ¬ x ≤ 1099511627776 := fun q => p1 ⟨p2, q⟩
                  rw [if_neg p1] at hS' c17
                  have f0 : a ≥ 0 := by omega
                  by_cases q2 : a ≤ now
                  · have q2a : now ≥ a := q2
                    rw [if_pos ⟨f0, q2⟩] at c17
                    simp only [↓STEP, SB, looked, behind, lookOk, AAct.kind, AOp.kind, wpRes, evRes, resV, AOp.ev, bin, binI, binS, shiftI, eqV, un, bound, boundO, fill, fillRows, aggOf, keyEq, findKey, putKey, V.cells, V.flat, byteOf, bytesOf, rdOf, H.wr, H.kOf, splice, isYl, ↓reduceIte, Nat.reduceEqDiff, Nat.reduceLeDiff, Nat.reduceLT, Nat.reduceAdd, Nat.reduceSub, Nat.reduceMul, Int.reduceLT, Int.reduceLE, Int.reduceEq, Int.reduceAdd, Int.reduceSub, Int.reduceMul, Int.reduceNeg, Int.reduceToNat, reduceCtorEq, t13, t12, t10, t11, t2, t8, t7, hi1, hi2, hi3, g4, hx, x3, hg, wi, p2, p3, f0, q2a]
                    refine Runs.mono (c := .fn 10) («as» := [.p (some (base.nx + 17, 0, 0))] ++ []) (runs_of_wpF (pr := prT) (af := Am.c_endpoint_End_Closed) rfl (by kernel_rfl) (closed_walk hc c17)) ?_
                    rintro v2 g2 ⟨rfl, rfl⟩
                    simp only [↓STEP, SB, looked, behind, lookOk, AAct.kind, AOp.kind, wpRes, evRes, resV, AOp.ev, bin, binI, binS, shiftI, eqV, un, bound, boundO, fill, fillRows, aggOf, keyEq, findKey, putKey, V.cells, V.flat, byteOf, bytesOf, rdOf, H.wr, H.kOf, splice, isYl, ↓reduceIte, Nat.reduceEqDiff, Nat.reduceLeDiff, Nat.reduceLT, Nat.reduceAdd, Nat.reduceSub, Nat.reduceMul, Int.reduceLT, Int.reduceLE, Int.reduceEq, Int.reduceAdd, Int.reduceSub, Int.reduceMul, Int.reduceNeg, Int.reduceToNat, reduceCtorEq, wi,  t13]
                    refine ⟨m - 1, by omega, i + 1, now, by omega, ?_, ?_, ?_, ?_, ?_, ?_, ?_, by omega, hS'⟩
                    all_goals (simp only [↓STEP, SB, looked, behind, lookOk, AAct.kind, AOp.kind, wpRes, evRes, resV, AOp.ev, bin, binI, binS, shiftI, eqV, un, bound, boundO, fill, fillRows, aggOf, keyEq, findKey, putKey, V.cells, V.flat, byteOf, bytesOf, rdOf, H.wr, H.kOf, splice, isYl, ↓reduceIte, Nat.reduceEqDiff, Nat.reduceLeDiff, Nat.reduceLT, Nat.reduceAdd, Nat.reduceSub, Nat.reduceMul, Int.reduceLT, Int.reduceLE, Int.reduceEq, Int.reduceAdd, Int.reduceSub, Int.reduceMul, Int.reduceNeg, Int.reduceToNat, reduceCtorEq, t12, t10, t11, t2, t8, t7] <;> rfl)
                  · have q2a : ¬ now ≥ a := q2
                    rw [if_neg (fun q => q2 q.2)] at c17
                    simp only [↓STEP, SB, looked, behind, lookOk, AAct.kind, AOp.kind, wpRes, evRes, resV, AOp.ev, bin, binI, binS, shiftI, eqV, un, bound, boundO, fill, fillRows, aggOf, keyEq, findKey, putKey, V.cells, V.flat, byteOf, bytesOf, rdOf, H.wr, H.kOf, splice, isYl, ↓reduceIte, Nat.reduceEqDiff, Nat.reduceLeDiff, Nat.reduceLT, Nat.reduceAdd, Nat.reduceSub, Nat.reduceMul, Int.reduceLT, Int.reduceLE, Int.reduceEq, Int.reduceAdd, Int.reduceSub, Int.reduceMul, Int.reduceNeg, Int.reduceToNat, reduceCtorEq, t13, t12, t10, t11, t2, t8, t7, hi1, hi2, hi3, g4, hx, x3, hg, wi, p2, p3, f0, q2a]
                    refine Runs.mono (c := .fn 10) («as» := [.p (some (base.nx + 17, 0, 0))] ++ []) (runs_of_wpF (pr := prT) (af := Am.c_endpoint_End_Closed) rfl (by kernel_rfl) (closed_walk hc c17)) ?_
                    rintro v2 g2 ⟨rfl, rfl⟩
                    simp only [↓STEP, SB, looked, behind, lookOk, AAct.kind, AOp.kind, wpRes, evRes, resV, AOp.ev, bin, binI, binS, shiftI, eqV, un, bound, boundO, fill, fillRows, aggOf, keyEq, findKey, putKey, V.cells, V.flat, byteOf, bytesOf, rdOf, H.wr, H.kOf, splice, isYl, ↓reduceIte, Nat.reduceEqDiff, Nat.reduceLeDiff, Nat.reduceLT, Nat.reduceAdd, Nat.reduceSub, Nat.reduceMul, Int.reduceLT, Int.reduceLE, Int.reduceEq, Int.reduceAdd, Int.reduceSub, Int.reduceMul, Int.reduceNeg, Int.reduceToNat, reduceCtorEq, wi,  t13]
                    refine ⟨m - 1, by omega, i + 1, now, by omega, ?_, ?_, ?_, ?_, ?_, ?_, ?_, by omega, hS'⟩
                    all_goals (simp only [↓STEP, SB, looked, behind, lookOk, AAct.kind, AOp.kind, wpRes, evRes, resV, AOp.ev, bin, binI, binS, shiftI, eqV, un, bound, boundO, fill, fillRows, aggOf, keyEq, findKey, putKey, V.cells, V.flat, byteOf, bytesOf, rdOf, H.wr, H.kOf, splice, isYl, ↓reduceIte, Nat.reduceEqDiff, Nat.reduceLeDiff, Nat.reduceLT, Nat.reduceAdd, Nat.reduceSub, Nat.reduceMul, Int.reduceLT, Int.reduceLE, Int.reduceEq, Int.reduceAdd, Int.reduceSub, Int.reduceMul, Int.reduceNeg, Int.reduceToNat, reduceCtorEq, t12, t10, t11, t2, t8, t7] <;> rfl)
                · rw [if_neg p1] at hS' c17
                  have f0 : a ≥ 0 := by omega
                  by_cases q2 : a ≤ now
                  · have q2a : now ≥ a := q2
                    rw [if_pos ⟨f0, q2⟩] at c17
                    simp only [↓STEP, SB, looked, behind, lookOk, AAct.kind, AOp.kind, wpRes, evRes, resV, AOp.ev, bin, binI, binS, shiftI, eqV, un, bound, boundO, fill, fillRows, aggOf, keyEq, findKey, putKey, V.cells, V.flat, byteOf, bytesOf, rdOf, H.wr, H.kOf, splice, isYl, ↓reduceIte, Nat.reduceEqDiff, Nat.reduceLeDiff, Nat.reduceLT, Nat.reduceAdd, Nat.reduceSub, Nat.reduceMul, Int.reduceLT, Int.reduceLE, Int.reduceEq, Int.reduceAdd, Int.reduceSub, Int.reduceMul, Int.reduceNeg, Int.reduceToNat, reduceCtorEq, t13, t12, t10, t11, t2, t8, t7, hi1, hi2, hi3, g4, hx, x3, hg, wi, p2, f0, q2a]
                    refine Runs.mono (c := .fn 10) («as» := [.p (some (base.nx + 17, 0, 0))] ++ []) (runs_of_wpF (pr := prT) (af := Am.c_endpoint_End_Closed) rfl (by kernel_rfl) (closed_walk hc c17)) ?_
                    rintro v2 g2 ⟨rfl, rfl⟩
                    simp only [↓STEP, SB, looked, behind, lookOk, AAct.kind, AOp.kind, wpRes, evRes, resV, AOp.ev, bin, binI, binS, shiftI, eqV, un, bound, boundO, fill, fillRows, aggOf, keyEq, findKey, putKey, V.cells, V.flat, byteOf, bytesOf, rdOf, H.wr, H.kOf, splice, isYl, ↓reduceIte, Nat.reduceEqDiff, Nat.reduceLeDiff, Nat.reduceLT, Nat.reduceAdd, Nat.reduceSub, Nat.reduceMul, Int.reduceLT, Int.reduceLE, Int.reduceEq, Int.reduceAdd, Int.reduceSub, Int.reduceMul, Int.reduceNeg, Int.reduceToNat, reduceCtorEq, wi,  t13]
                    refine ⟨m - 1, by omega, i + 1, now, by omega, ?_, ?_, ?_, ?_, ?_, ?_, ?_, by omega, hS'⟩
                    all_goals (simp only [↓STEP, SB, looked, behind, lookOk, AAct.kind, AOp.kind, wpRes, evRes, resV, AOp.ev, bin, binI, binS, shiftI, eqV, un, bound, boundO, fill, fillRows, aggOf, keyEq, findKey, putKey, V.cells, V.flat, byteOf, bytesOf, rdOf, H.wr, H.kOf, splice, isYl, ↓reduceIte, Nat.reduceEqDiff, Nat.reduceLeDiff, Nat.reduceLT, Nat.reduceAdd, Nat.reduceSub, Nat.reduceMul, Int.reduceLT, Int.reduceLE, Int.reduceEq, Int.reduceAdd, Int.reduceSub, Int.reduceMul, Int.reduceNeg, Int.reduceToNat, reduceCtorEq, t12, t10, t11, t2, t8, t7] <;> rfl)
                  · have q2a : ¬ now ≥ a := q2
                    rw [if_neg (fun q => q2 q.2)] at c17
                    simp only [↓STEP, SB, looked, behind, lookOk, AAct.kind, AOp.kind, wpRes, evRes, resV, AOp.ev, bin, binI, binS, shiftI, eqV, un, bound, boundO, fill, fillRows, aggOf, keyEq, findKey, putKey, V.cells, V.flat, byteOf, bytesOf, rdOf, H.wr, H.kOf, splice, isYl, ↓reduceIte, Nat.reduceEqDiff, Nat.reduceLeDiff, Nat.reduceLT, Nat.reduceAdd, Nat.reduceSub, Nat.reduceMul, Int.reduceLT, Int.reduceLE, Int.reduceEq, Int.reduceAdd, Int.reduceSub, Int.reduceMul, Int.reduceNeg, Int.reduceToNat, reduceCtorEq, t13, t12, t10, t11, t2, t8, t7, hi1, hi2, hi3, g4, hx, x3, hg, wi, p2, f0, q2a]
                    refine Runs.mono (c := .fn 10) («as» := [.p (some (base.nx + 17, 0, 0))] ++ []) (runs_of_wpF (pr := prT) (af := Am.c_endpoint_End_Closed) rfl (by kernel_rfl) (closed_walk hc c17)) ?_
                    rintro v2 g2 ⟨rfl, rfl⟩
                    simp only [↓STEP, SB, looked, behind, lookOk, AAct.kind, AOp.kind, wpRes, evRes, resV, AOp.ev, bin, binI, binS, shiftI, eqV, un, bound, boundO, fill, fillRows, aggOf, keyEq, findKey, putKey, V.cells, V.flat, byteOf, bytesOf, rdOf, H.wr, H.kOf, splice, isYl, ↓reduceIte, Nat.reduceEqDiff, Nat.reduceLeDiff, Nat.reduceLT, Nat.reduceAdd, Nat.reduceSub, Nat.reduceMul, Int.reduceLT, Int.reduceLE, Int.reduceEq, Int.reduceAdd, Int.reduceSub, Int.reduceMul, Int.reduceNeg, Int.reduceToNat, reduceCtorEq, wi,  t13]
                    refine ⟨m - 1, by omega, i + 1, now, by omega, ?_, ?_, ?_, ?_, ?_, ?_, ?_, by omega, hS'⟩
                    all_goals (simp only [↓STEP, SB, looked, behind, lookOk, AAct.kind, AOp.kind, wpRes, evRes, resV, AOp.ev, bin, binI, binS, shiftI, eqV, un, bound, boundO, fill, fillRows, aggOf, keyEq, findKey, putKey, V.cells, V.flat, byteOf, bytesOf, rdOf, H.wr, H.kOf, splice, isYl, ↓reduceIte, Nat.reduceEqDiff, Nat.reduceLeDiff, Nat.reduceLT, Nat.reduceAdd, Nat.reduceSub, Nat.reduceMul, Int.reduceLT, Int.reduceLE, Int.reduceEq, Int.reduceAdd, Int.reduceSub, Int.reduceMul, Int.reduceNeg, Int.reduceToNat, reduceCtorEq, t12, t10, t11, t2, t8, t7] <;> rfl)
            · by_cases hi1 : i < l.length
              · have hi1' : (i : Int) < (l.length : Int) := by omega
                have hi2 : ¬ (i : Int) < 20 := by omega
                simp only [↓STEP, SB, looked, behind, lookOk, AAct.kind, AOp.kind, wpRes, evRes, resV, AOp.ev, bin, binI, binS, shiftI, eqV, un, bound, boundO, fill, fillRows, aggOf, keyEq, findKey, putKey, V.cells, V.flat, byteOf, bytesOf, rdOf, H.wr, H.kOf, splice, isYl, ↓reduceIte, Nat.reduceEqDiff, Nat.reduceLeDiff, Nat.reduceLT, Nat.reduceAdd, Nat.reduceSub, Nat.reduceMul, Int.reduceLT, Int.reduceLE, Int.reduceEq, Int.reduceAdd, Int.reduceSub, Int.reduceMul, Int.reduceNeg, Int.reduceToNat, reduceCtorEq, t13, t12, t10, t11, t2, t8, t7, hi1', hi2]
              · have hi1' : ¬ (i : Int) < (l.length : Int) := by omega
                simp only [↓STEP, SB, looked, behind, lookOk, AAct.kind, AOp.kind, wpRes, evRes, resV, AOp.ev, bin, binI, binS, shiftI, eqV, un, bound, boundO, fill, fillRows, aggOf, keyEq, findKey, putKey, V.cells, V.flat, byteOf, bytesOf, rdOf, H.wr, H.kOf, splice, isYl, ↓reduceIte, Nat.reduceEqDiff, Nat.reduceLeDiff, Nat.reduceLT, Nat.reduceAdd, Nat.reduceSub, Nat.reduceMul, Int.reduceLT, Int.reduceLE, Int.reduceEq, Int.reduceAdd, Int.reduceSub, Int.reduceMul, Int.reduceNeg, Int.reduceToNat, reduceCtorEq, t13, t12, t10, t11, t2, t8, t7, hi1']
        all_goals (simp only [↓STEP, SB, looked, behind, lookOk, AAct.kind, AOp.kind, wpRes, evRes, resV, AOp.ev, bin, binI, binS, shiftI, eqV, un, bound, boundO, fill, fillRows, aggOf, keyEq, findKey, putKey, V.cells, V.flat, byteOf, bytesOf, rdOf, H.wr, H.kOf, splice, isYl, ↓reduceIte, Nat.reduceEqDiff, Nat.reduceLeDiff, Nat.reduceLT, Nat.reduceAdd, Nat.reduceSub, Nat.reduceMul, Int.reduceLT, Int.reduceLE, Int.reduceEq, Int.reduceAdd, Int.reduceSub, Int.reduceMul, Int.reduceNeg, Int.reduceToNat, reduceCtorEq])
        all_goals rfl
    · have c1' : ¬ a > 0 := c1
      by_cases c2 : 0 < b
      · have c2' : b > 0 := c2
        simp only [↓STEP, SB, looked, behind, lookOk, AAct.kind, AOp.kind, wpRes, evRes, resV, AOp.ev, bin, binI, binS, shiftI, eqV, un, bound, boundO, fill, fillRows, aggOf, keyEq, findKey, putKey, V.cells, V.flat, byteOf, bytesOf, rdOf, H.wr, H.kOf, splice, isYl, ↓reduceIte, Nat.reduceEqDiff, Nat.reduceLeDiff, Nat.reduceLT, Nat.reduceAdd, Nat.reduceSub, Nat.reduceMul, Int.reduceLT, Int.reduceLE, Int.reduceEq, Int.reduceAdd, Int.reduceSub, Int.reduceMul, Int.reduceNeg, Int.reduceToNat, reduceCtorEq, g1, c1', c2']
        refine wpA_loop_inv (LoopI base role (tOf a b 0 d 0) (b) (4) sl l.length) ?_ (m := l.length) (key (b) (4) (s2 c2 (.inl c1)) _ ?_ ?_ ?_ ?_ ?_ ?_ ?_)
        · rintro m t h ⟨i, now, him, t13, t12, t10, t11, t2, t8, t7, hnow, hS⟩
          rcases hs with ⟨rfl, x, y, z, rfl⟩ | ⟨ro, gb, rfl, hbn⟩
          · obtain rfl : i = 0 := by simp at him; omega
            simp only [↓STEP, SB, looked, behind, lookOk, AAct.kind, AOp.kind, wpRes, evRes, resV, AOp.ev, bin, binI, binS, shiftI, eqV, un, bound, boundO, fill, fillRows, aggOf, keyEq, findKey, putKey, V.cells, V.flat, byteOf, bytesOf, rdOf, H.wr, H.kOf, splice, isYl, ↓reduceIte, Nat.reduceEqDiff, Nat.reduceLeDiff, Nat.reduceLT, Nat.reduceAdd, Nat.reduceSub, Nat.reduceMul, Int.reduceLT, Int.reduceLE, Int.reduceEq, Int.reduceAdd, Int.reduceSub, Int.reduceMul, Int.reduceNeg, Int.reduceToNat, reduceCtorEq, t13, t12, t10, t11, t2, t8, t7]
          · by_cases hi : i < l.length ∧ i < 20
            · have hi1 : (i : Int) < (l.length : Int) := by omega
              have hi2 : (i : Int) < 20 := by omega
              have hi3 : (0 : Int) ≤ (i : Int) := by omega
              have hx : (l.map fun n => [V.i .i64 n])[i]? = some [V.i .i64 (l[i]'hi.1)] := by rw [List.getElem?_map, List.getElem?_eq_getElem hi.1]; rfl
              generalize l[i]'hi.1 = x at hx
              have g4 := hS.1.2 _ gb hbn
              obtain ⟨v', h', hg, hS', c', hc, c17⟩ := tick_stand (x := x) hok.2 (s2 c2 (.inl c1)) hS
              have wi : IntKind.wrap .i64 ((i : Int) + 1) = i + 1 := wrap_i64 (by omega) (by omega)
              by_cases p1 : now ≤ x ∧ x ≤ 1099511627776
              · have p1a : x ≥ now := p1.1
                rw [if_pos p1] at hS' c17
                have f0 : b ≥ 0 := by omega
                by_cases q2 : b ≤ x
                · have q2a : x ≥ b := q2
                  rw [if_pos ⟨f0, q2⟩] at c17
                  simp only [↓STEP, SB, looked, behind, lookOk, AAct.kind, AOp.kind, wpRes, evRes, resV, AOp.ev, bin, binI, binS, shiftI, eqV, un, bound, boundO, fill, fillRows, aggOf, keyEq, findKey, putKey, V.cells, V.flat, byteOf, bytesOf, rdOf, H.wr, H.kOf, splice, isYl, ↓reduceIte, Nat.reduceEqDiff, Nat.reduceLeDiff, Nat.reduceLT, Nat.reduceAdd, Nat.reduceSub, Nat.reduceMul, Int.reduceLT, Int.reduceLE, Int.reduceEq, Int.reduceAdd, Int.reduceSub, Int.reduceMul, Int.reduceNeg, Int.reduceToNat, reduceCtorEq, t13, t12, t10, t11, t2, t8, t7, hi1, hi2, hi3, g4, hx, x3, hg, wi, p1a, p1.2, f0, q2a]
                  refine Runs.mono (c := .fn 10) («as» := [.p (some (base.nx + 17, 0, 0))] ++ []) (runs_of_wpF (pr := prT) (af := Am.c_endpoint_End_Closed) rfl (by kernel_rfl) (closed_walk hc c17)) ?_
                  rintro v2 g2 ⟨rfl, rfl⟩
                  simp only [↓STEP, SB, looked, behind, lookOk, AAct.kind, AOp.kind, wpRes, evRes, resV, AOp.ev, bin, binI, binS, shiftI, eqV, un, bound, boundO, fill, fillRows, aggOf, keyEq, findKey, putKey, V.cells, V.flat, byteOf, bytesOf, rdOf, H.wr, H.kOf, splice, isYl, ↓reduceIte, Nat.reduceEqDiff, Nat.reduceLeDiff, Nat.reduceLT, Nat.reduceAdd, Nat.reduceSub, Nat.reduceMul, Int.reduceLT, Int.reduceLE, Int.reduceEq, Int.reduceAdd, Int.reduceSub, Int.reduceMul, Int.reduceNeg, Int.reduceToNat, reduceCtorEq, wi,  t13]
                  refine ⟨m - 1, by omega, i + 1, x, by omega, ?_, ?_, ?_, ?_, ?_, ?_, ?_, by omega, hS'⟩
                  all_goals (simp only [↓STEP, SB, looked, behind, lookOk, AAct.kind, AOp.kind, wpRes, evRes, resV, AOp.ev, bin, binI, binS, shiftI, eqV, un, bound, boundO, fill, fillRows, aggOf, keyEq, findKey, putKey, V.cells, V.flat, byteOf, bytesOf, rdOf, H.wr, H.kOf, splice, isYl, ↓reduceIte, Nat.reduceEqDiff, Nat.reduceLeDiff, Nat.reduceLT, Nat.reduceAdd, Nat.reduceSub, Nat.reduceMul, Int.reduceLT, Int.reduceLE, Int.reduceEq, Int.reduceAdd, Int.reduceSub, Int.reduceMul, Int.reduceNeg, Int.reduceToNat, reduceCtorEq, t12, t10, t11, t2, t8, t7] <;> rfl)
                · have q2a : ¬ x ≥ b := q2
                  rw [if_neg (fun q => q2 q.2)] at c17
                  simp only [↓STEP, SB, looked, behind, lookOk, AAct.kind, AOp.kind, wpRes, evRes, resV, AOp.ev, bin, binI, binS, shiftI, eqV, un, bound, boundO, fill, fillRows, aggOf, keyEq, findKey, putKey, V.cells, V.flat, byteOf, bytesOf, rdOf, H.wr, H.kOf, splice, isYl, ↓reduceIte, Nat.reduceEqDiff, Nat.reduceLeDiff, Nat.reduceLT, Nat.reduceAdd, Nat.reduceSub, Nat.reduceMul, Int.reduceLT, Int.reduceLE, Int.reduceEq, Int.reduceAdd, Int.reduceSub, Int.reduceMul, Int.reduceNeg, Int.reduceToNat, reduceCtorEq, t13, t12, t10, t11, t2, t8, t7, hi1, hi2, hi3, g4, hx, x3, hg, wi, p1a, p1.2, f0, q2a]
                  refine Runs.mono (c := .fn 10) («as» := [.p (some (base.nx + 17, 0, 0))] ++ []) (runs_of_wpF (pr := prT) (af := Am.c_endpoint_End_Closed) rfl (by kernel_rfl) (closed_walk hc c17)) ?_
                  rintro v2 g2 ⟨rfl, rfl⟩
                  simp only [↓STEP, SB, looked, behind, lookOk, AAct.kind, AOp.kind, wpRes, evRes, resV, AOp.ev, bin, binI, binS, shiftI, eqV, un, bound, boundO, fill, fillRows, aggOf, keyEq, findKey, putKey, V.cells, V.flat, byteOf, bytesOf, rdOf, H.wr, H.kOf, splice, isYl, ↓reduceIte, Nat.reduceEqDiff, Nat.reduceLeDiff, Nat.reduceLT, Nat.reduceAdd, Nat.reduceSub, Nat.reduceMul, Int.reduceLT, Int.reduceLE, Int.reduceEq, Int.reduceAdd, Int.reduceSub, Int.reduceMul, Int.reduceNeg, Int.reduceToNat, reduceCtorEq, wi,  t13]
                  refine ⟨m - 1, by omega, i + 1, x, by omega, ?_, ?_, ?_, ?_, ?_, ?_, ?_, by omega, hS'⟩
                  all_goals (simp only [↓STEP, SB, looked, behind, lookOk, AAct.kind, AOp.kind, wpRes, evRes, resV, AOp.ev, bin, binI, binS, shiftI, eqV, un, bound, boundO, fill, fillRows, aggOf, keyEq, findKey, putKey, V.cells, V.flat, byteOf, bytesOf, rdOf, H.wr, H.kOf, splice, isYl, ↓reduceIte, Nat.reduceEqDiff, Nat.reduceLeDiff, Nat.reduceLT, Nat.reduceAdd, Nat.reduceSub, Nat.reduceMul, Int.reduceLT, Int.reduceLE, Int.reduceEq, Int.reduceAdd, Int.reduceSub, Int.reduceMul, Int.reduceNeg, Int.reduceToNat, reduceCtorEq, t12, t10, t11, t2, t8, t7] <;> rfl)
              · by_cases p2 : x ≥ now
                · have p3 : ¬ x ≤ 1099511627776 := fun q => p1 ⟨p2, q⟩
                  rw [if_neg p1] at hS' c17
                  have f0 : b ≥ 0 := by omega
                  by_cases q2 : b ≤ now
                  · have q2a : now ≥ b := q2
                    rw [if_pos ⟨f0, q2⟩] at c17
                    simp only [↓STEP, SB, looked, behind, lookOk, AAct.kind, AOp.kind, wpRes, evRes, resV, AOp.ev, bin, binI, binS, shiftI, eqV, un, bound, boundO, fill, fillRows, aggOf, keyEq, findKey, putKey, V.cells, V.flat, byteOf, bytesOf, rdOf, H.wr, H.kOf, splice, isYl, ↓reduceIte, Nat.reduceEqDiff, Nat.reduceLeDiff, Nat.reduceLT, Nat.reduceAdd, Nat.reduceSub, Nat.reduceMul, Int.reduceLT, Int.reduceLE, Int.reduceEq, Int.reduceAdd, Int.reduceSub, Int.reduceMul, Int.reduceNeg, Int.reduceToNat, reduceCtorEq, t13, t12, t10, t11, t2, t8, t7, hi1, hi2, hi3, g4, hx, x3, hg, wi, p2, p3, f0, q2a]
                    refine Runs.mono (c := .fn 10) («as» := [.p (some (base.nx + 17, 0, 0))] ++ []) (runs_of_wpF (pr := prT) (af := Am.c_endpoint_End_Closed) rfl (by kernel_rfl) (closed_walk hc c17)) ?_
                    rintro v2 g2 ⟨rfl, rfl⟩
                    simp only [↓STEP, SB, looked, behind, lookOk, AAct.kind, AOp.kind, wpRes, evRes, resV, AOp.ev, bin, binI, binS, shiftI, eqV, un, bound, boundO, fill, fillRows, aggOf, keyEq, findKey, putKey, V.cells, V.flat, byteOf, bytesOf, rdOf, H.wr, H.kOf, splice, isYl, ↓reduceIte, Nat.reduceEqDiff, Nat.reduceLeDiff, Nat.reduceLT, Nat.reduceAdd, Nat.reduceSub, Nat.reduceMul, Int.reduceLT, Int.reduceLE, Int.reduceEq, Int.reduceAdd, Int.reduceSub, Int.reduceMul, Int.reduceNeg, Int.reduceToNat, reduceCtorEq, wi,  t13]
                    refine ⟨m - 1, by omega, i + 1, now, by omega, ?_, ?_, ?_, ?_, ?_, ?_, ?_, by omega, hS'⟩
                    all_goals (simp only [↓STEP, SB, looked, behind, lookOk, AAct.kind, AOp.kind, wpRes, evRes, resV, AOp.ev, bin, binI, binS, shiftI, eqV, un, bound, boundO, fill, fillRows, aggOf, keyEq, findKey, putKey, V.cells, V.flat, byteOf, bytesOf, rdOf, H.wr, H.kOf, splice, isYl, ↓reduceIte, Nat.reduceEqDiff, Nat.reduceLeDiff, Nat.reduceLT, Nat.reduceAdd, Nat.reduceSub, Nat.reduceMul, Int.reduceLT, Int.reduceLE, Int.reduceEq, Int.reduceAdd, Int.reduceSub, Int.reduceMul, Int.reduceNeg, Int.reduceToNat, reduceCtorEq, t12, t10, t11, t2, t8, t7] <;> rfl)
                  · have q2a : ¬ now ≥ b := q2
                    rw [if_neg (fun q => q2 q.2)] at c17
                    simp only [↓STEP, SB, looked, behind, lookOk, AAct.kind, AOp.kind, wpRes, evRes, resV, AOp.ev, bin, binI, binS, shiftI, eqV, un, bound, boundO, fill, fillRows, aggOf, keyEq, findKey, putKey, V.cells, V.flat, byteOf, bytesOf, rdOf, H.wr, H.kOf, splice, isYl, ↓reduceIte, Nat.reduceEqDiff, Nat.reduceLeDiff, Nat.reduceLT, Nat.reduceAdd, Nat.reduceSub, Nat.reduceMul, Int.reduceLT, Int.reduceLE, Int.reduceEq, Int.reduceAdd, Int.reduceSub, Int.reduceMul, Int.reduceNeg, Int.reduceToNat, reduceCtorEq, t13, t12, t10, t11, t2, t8, t7, hi1, hi2, hi3, g4, hx, x3, hg, wi, p2, p3, f0, q2a]
                    refine Runs.mono (c := .fn 10) («as» := [.p (some (base.nx + 17, 0, 0))] ++ []) (runs_of_wpF (pr := prT) (af := Am.c_endpoint_End_Closed) rfl (by kernel_rfl) (closed_walk hc c17)) ?_
                    rintro v2 g2 ⟨rfl, rfl⟩
                    simp only [↓STEP, SB, looked, behind, lookOk, AAct.kind, AOp.kind, wpRes, evRes, resV, AOp.ev, bin, binI, binS, shiftI, eqV, un, bound, boundO, fill, fillRows, aggOf, keyEq, findKey, putKey, V.cells, V.flat, byteOf, bytesOf, rdOf, H.wr, H.kOf, splice, isYl, ↓reduceIte, Nat.reduceEqDiff, Nat.reduceLeDiff, Nat.reduceLT, Nat.reduceAdd, Nat.reduceSub, Nat.reduceMul, Int.reduceLT, Int.reduceLE, Int.reduceEq, Int.reduceAdd, Int.reduceSub, Int.reduceMul, Int.reduceNeg, Int.reduceToNat, reduceCtorEq, wi,  t13]
                    refine ⟨m - 1, by omega, i + 1, now, by omega, ?_, ?_, ?_, ?_, ?_, ?_, ?_, by omega, hS'⟩
                    all_goals (simp only [↓STEP, SB, looked, behind, lookOk, AAct.kind, AOp.kind, wpRes, evRes, resV, AOp.ev, bin, binI, binS, shiftI, eqV, un, bound, boundO, fill, fillRows, aggOf, keyEq, findKey, putKey, V.cells, V.flat, byteOf, bytesOf, rdOf, H.wr, H.kOf, splice, isYl, ↓reduceIte, Nat.reduceEqDiff, Nat.reduceLeDiff, Nat.reduceLT, Nat.reduceAdd, Nat.reduceSub, Nat.reduceMul, Int.reduceLT, Int.reduceLE, Int.reduceEq, Int.reduceAdd, Int.reduceSub, Int.reduceMul, Int.reduceNeg, Int.reduceToNat, reduceCtorEq, t12, t10, t11, t2, t8, t7] <;> rfl)
                · rw [if_neg p1] at hS' c17
                  have f0 : b ≥ 0 := by omega
                  by_cases q2 : b ≤ now
                  · have q2a : now ≥ b := q2
                    rw [if_pos ⟨f0, q2⟩] at c17
                    simp only [↓STEP, SB, looked, behind, lookOk, AAct.kind, AOp.kind, wpRes, evRes, resV, AOp.ev, bin, binI, binS, shiftI, eqV, un, bound, boundO, fill, fillRows, aggOf, keyEq, findKey, putKey, V.cells, V.flat, byteOf, bytesOf, rdOf, H.wr, H.kOf, splice, isYl, ↓reduceIte, Nat.reduceEqDiff, Nat.reduceLeDiff, Nat.reduceLT, Nat.reduceAdd, Nat.reduceSub, Nat.reduceMul, Int.reduceLT, Int.reduceLE, Int.reduceEq, Int.reduceAdd, Int.reduceSub, Int.reduceMul, Int.reduceNeg, Int.reduceToNat, reduceCtorEq, t13, t12, t10, t11, t2, t8, t7, hi1, hi2, hi3, g4, hx, x3, hg, wi, p2, f0, q2a]
                    refine Runs.mono (c := .fn 10) («as» := [.p (some (base.nx + 17, 0, 0))] ++ []) (runs_of_wpF (pr := prT) (af := Am.c_endpoint_End_Closed) rfl (by kernel_rfl) (closed_walk hc c17)) ?_
                    rintro v2 g2 ⟨rfl, rfl⟩
                    simp only [↓STEP, SB, looked, behind, lookOk, AAct.kind, AOp.kind, wpRes, evRes, resV, AOp.ev, bin, binI, binS, shiftI, eqV, un, bound, boundO, fill, fillRows, aggOf, keyEq, findKey, putKey, V.cells, V.flat, byteOf, bytesOf, rdOf, H.wr, H.kOf, splice, isYl, ↓reduceIte, Nat.reduceEqDiff, Nat.reduceLeDiff, Nat.reduceLT, Nat.reduceAdd, Nat.reduceSub, Nat.reduceMul, Int.reduceLT, Int.reduceLE, Int.reduceEq, Int.reduceAdd, Int.reduceSub, Int.reduceMul, Int.reduceNeg, Int.reduceToNat, reduceCtorEq, wi,  t13]
                    refine ⟨m - 1, by omega, i + 1, now, by omega, ?_, ?_, ?_, ?_, ?_, ?_, ?_, by omega, hS'⟩
                    all_goals (simp only [↓STEP, SB, looked, behind, lookOk, AAct.kind, AOp.kind, wpRes, evRes, resV, AOp.ev, bin, binI, binS, shiftI, eqV, un, bound, boundO, fill, fillRows, aggOf, keyEq, findKey, putKey, V.cells, V.flat, byteOf, bytesOf, rdOf, H.wr, H.kOf, splice, isYl, ↓reduceIte, Nat.reduceEqDiff, Nat.reduceLeDiff, Nat.reduceLT, Nat.reduceAdd, Nat.reduceSub, Nat.reduceMul, Int.reduceLT, Int.reduceLE, Int.reduceEq, Int.reduceAdd, Int.reduceSub, Int.reduceMul, Int.reduceNeg, Int.reduceToNat, reduceCtorEq, t12, t10, t11, t2, t8, t7] <;> rfl)
                  · have q2a : ¬ now ≥ b := q2
                    rw [if_neg (fun q => q2 q.2)] at c17
                    simp only [↓STEP, SB, looked, behind, lookOk, AAct.kind, AOp.kind, wpRes, evRes, resV, AOp.ev, bin, binI, binS, shiftI, eqV, un, bound, boundO, fill, fillRows, aggOf, keyEq, findKey, putKey, V.cells, V.flat, byteOf, bytesOf, rdOf, H.wr, H.kOf, splice, isYl, ↓reduceIte, Nat.reduceEqDiff, Nat.reduceLeDiff, Nat.reduceLT, Nat.reduceAdd, Nat.reduceSub, Nat.reduceMul, Int.reduceLT, Int.reduceLE, Int.reduceEq, Int.reduceAdd, Int.reduceSub, Int.reduceMul, Int.reduceNeg, Int.reduceToNat, reduceCtorEq, t13, t12, t10, t11, t2, t8, t7, hi1, hi2, hi3, g4, hx, x3, hg, wi, p2, f0, q2a]
                    refine Runs.mono (c := .fn 10) («as» := [.p (some (base.nx + 17, 0, 0))] ++ []) (runs_of_wpF (pr := prT) (af := Am.c_endpoint_End_Closed) rfl (by kernel_rfl) (closed_walk hc c17)) ?_
                    rintro v2 g2 ⟨rfl, rfl⟩
                    simp only [↓STEP, SB, looked, behind, lookOk, AAct.kind, AOp.kind, wpRes, evRes, resV, AOp.ev, bin, binI, binS, shiftI, eqV, un, bound, boundO, fill, fillRows, aggOf, keyEq, findKey, putKey, V.cells, V.flat, byteOf, bytesOf, rdOf, H.wr, H.kOf, splice, isYl, ↓reduceIte, Nat.reduceEqDiff, Nat.reduceLeDiff, Nat.reduceLT, Nat.reduceAdd, Nat.reduceSub, Nat.reduceMul, Int.reduceLT, Int.reduceLE, Int.reduceEq, Int.reduceAdd, Int.reduceSub, Int.reduceMul, Int.reduceNeg, Int.reduceToNat, reduceCtorEq, wi,  t13]
                    refine ⟨m - 1, by omega, i + 1, now, by omega, ?_, ?_, ?_, ?_, ?_, ?_, ?_, by omega, hS'⟩
                    all_goals (simp only [↓STEP, SB, looked, behind, lookOk, AAct.kind, AOp.kind, wpRes, evRes, resV, AOp.ev, bin, binI, binS, shiftI, eqV, un, bound, boundO, fill, fillRows, aggOf, keyEq, findKey, putKey, V.cells, V.flat, byteOf, bytesOf, rdOf, H.wr, H.kOf, splice, isYl, ↓reduceIte, Nat.reduceEqDiff, Nat.reduceLeDiff, Nat.reduceLT, Nat.reduceAdd, Nat.reduceSub, Nat.reduceMul, Int.reduceLT, Int.reduceLE, Int.reduceEq, Int.reduceAdd, Int.reduceSub, Int.reduceMul, Int.reduceNeg, Int.reduceToNat, reduceCtorEq, t12, t10, t11, t2, t8, t7] <;> rfl)
            · by_cases hi1 : i < l.length
              · have hi1' : (i : Int) < (l.length : Int) := by omega
                have hi2 : ¬ (i : Int) < 20 := by omega
                simp only [↓STEP, SB, looked, behind, lookOk, AAct.kind, AOp.kind, wpRes, evRes, resV, AOp.ev, bin, binI, binS, shiftI, eqV, un, bound, boundO, fill, fillRows, aggOf, keyEq, findKey, putKey, V.cells, V.flat, byteOf, bytesOf, rdOf, H.wr, H.kOf, splice, isYl, ↓reduceIte, Nat.reduceEqDiff, Nat.reduceLeDiff, Nat.reduceLT, Nat.reduceAdd, Nat.reduceSub, Nat.reduceMul, Int.reduceLT, Int.reduceLE, Int.reduceEq, Int.reduceAdd, Int.reduceSub, Int.reduceMul, Int.reduceNeg, Int.reduceToNat, reduceCtorEq, t13, t12, t10, t11, t2, t8, t7, hi1', hi2]
              · have hi1' : ¬ (i : Int) < (l.length : Int) := by omega
                simp only [↓STEP, SB, looked, behind, lookOk, AAct.kind, AOp.kind, wpRes, evRes, resV, AOp.ev, bin, binI, binS, shiftI, eqV, un, bound, boundO, fill, fillRows, aggOf, keyEq, findKey, putKey, V.cells, V.flat, byteOf, bytesOf, rdOf, H.wr, H.kOf, splice, isYl, ↓reduceIte, Nat.reduceEqDiff, Nat.reduceLeDiff, Nat.reduceLT, Nat.reduceAdd, Nat.reduceSub, Nat.reduceMul, Int.reduceLT, Int.reduceLE, Int.reduceEq, Int.reduceAdd, Int.reduceSub, Int.reduceMul, Int.reduceNeg, Int.reduceToNat, reduceCtorEq, t13, t12, t10, t11, t2, t8, t7, hi1']
        all_goals (simp only [↓STEP, SB, looked, behind, lookOk, AAct.kind, AOp.kind, wpRes, evRes, resV, AOp.ev, bin, binI, binS, shiftI, eqV, un, bound, boundO, fill, fillRows, aggOf, keyEq, findKey, putKey, V.cells, V.flat, byteOf, bytesOf, rdOf, H.wr, H.kOf, splice, isYl, ↓reduceIte, Nat.reduceEqDiff, Nat.reduceLeDiff, Nat.reduceLT, Nat.reduceAdd, Nat.reduceSub, Nat.reduceMul, Int.reduceLT, Int.reduceLE, Int.reduceEq, Int.reduceAdd, Int.reduceSub, Int.reduceMul, Int.reduceNeg, Int.reduceToNat, reduceCtorEq])
        all_goals rfl
      · have c2' : ¬ b > 0 := c2
        simp only [↓STEP, SB, looked, behind, lookOk, AAct.kind, AOp.kind, wpRes, evRes, resV, AOp.ev, bin, binI, binS, shiftI, eqV, un, bound, boundO, fill, fillRows, aggOf, keyEq, findKey, putKey, V.cells, V.flat, byteOf, bytesOf, rdOf, H.wr, H.kOf, splice, isYl, ↓reduceIte, Nat.reduceEqDiff, Nat.reduceLeDiff, Nat.reduceLT, Nat.reduceAdd, Nat.reduceSub, Nat.reduceMul, Int.reduceLT, Int.reduceLE, Int.reduceEq, Int.reduceAdd, Int.reduceSub, Int.reduceMul, Int.reduceNeg, Int.reduceToNat, reduceCtorEq, g1, c1', c2']
        refine wpA_loop_inv (LoopI base role (tOf a b 0 d 0) (-1) (0) sl l.length) ?_ (m := l.length) (key (-1) (0) (s3 c1 c2) _ ?_ ?_ ?_ ?_ ?_ ?_ ?_)
        · rintro m t h ⟨i, now, him, t13, t12, t10, t11, t2, t8, t7, hnow, hS⟩
          rcases hs with ⟨rfl, x, y, z, rfl⟩ | ⟨ro, gb, rfl, hbn⟩
          · obtain rfl : i = 0 := by simp at him; omega
            simp only [↓STEP, SB, looked, behind, lookOk, AAct.kind, AOp.kind, wpRes, evRes, resV, AOp.ev, bin, binI, binS, shiftI, eqV, un, bound, boundO, fill, fillRows, aggOf, keyEq, findKey, putKey, V.cells, V.flat, byteOf, bytesOf, rdOf, H.wr, H.kOf, splice, isYl, ↓reduceIte, Nat.reduceEqDiff, Nat.reduceLeDiff, Nat.reduceLT, Nat.reduceAdd, Nat.reduceSub, Nat.reduceMul, Int.reduceLT, Int.reduceLE, Int.reduceEq, Int.reduceAdd, Int.reduceSub, Int.reduceMul, Int.reduceNeg, Int.reduceToNat, reduceCtorEq, t13, t12, t10, t11, t2, t8, t7]
          · by_cases hi : i < l.length ∧ i < 20
            · have hi1 : (i : Int) < (l.length : Int) := by omega
              have hi2 : (i : Int) < 20 := by omega
              have hi3 : (0 : Int) ≤ (i : Int) := by omega
              have hx : (l.map fun n => [V.i .i64 n])[i]? = some [V.i .i64 (l[i]'hi.1)] := by rw [List.getElem?_map, List.getElem?_eq_getElem hi.1]; rfl
              generalize l[i]'hi.1 = x at hx
              have g4 := hS.1.2 _ gb hbn
              obtain ⟨v', h', hg, hS', c', hc, c17⟩ := tick_stand (x := x) hok.2 (s3 c1 c2) hS
              have wi : IntKind.wrap .i64 ((i : Int) + 1) = i + 1 := wrap_i64 (by omega) (by omega)
              by_cases p1 : now ≤ x ∧ x ≤ 1099511627776
              · have p1a : x ≥ now := p1.1
                rw [if_pos p1] at hS' c17
                have f0 : ¬ (-1 : Int) ≥ 0 := by omega
                rw [if_neg (fun q => f0 q.1)] at c17
                simp only [↓STEP, SB, looked, behind, lookOk, AAct.kind, AOp.kind, wpRes, evRes, resV, AOp.ev, bin, binI, binS, shiftI, eqV, un, bound, boundO, fill, fillRows, aggOf, keyEq, findKey, putKey, V.cells, V.flat, byteOf, bytesOf, rdOf, H.wr, H.kOf, splice, isYl, ↓reduceIte, Nat.reduceEqDiff, Nat.reduceLeDiff, Nat.reduceLT, Nat.reduceAdd, Nat.reduceSub, Nat.reduceMul, Int.reduceLT, Int.reduceLE, Int.reduceEq, Int.reduceAdd, Int.reduceSub, Int.reduceMul, Int.reduceNeg, Int.reduceToNat, reduceCtorEq, t13, t12, t10, t11, t2, t8, t7, hi1, hi2, hi3, g4, hx, x3, hg, wi, p1a, p1.2, f0]
                refine Runs.mono (c := .fn 10) («as» := [.p (some (base.nx + 17, 0, 0))] ++ []) (runs_of_wpF (pr := prT) (af := Am.c_endpoint_End_Closed) rfl (by kernel_rfl) (closed_walk hc c17)) ?_
                rintro v2 g2 ⟨rfl, rfl⟩
                simp only [↓STEP, SB, looked, behind, lookOk, AAct.kind, AOp.kind, wpRes, evRes, resV, AOp.ev, bin, binI, binS, shiftI, eqV, un, bound, boundO, fill, fillRows, aggOf, keyEq, findKey, putKey, V.cells, V.flat, byteOf, bytesOf, rdOf, H.wr, H.kOf, splice, isYl, ↓reduceIte, Nat.reduceEqDiff, Nat.reduceLeDiff, Nat.reduceLT, Nat.reduceAdd, Nat.reduceSub, Nat.reduceMul, Int.reduceLT, Int.reduceLE, Int.reduceEq, Int.reduceAdd, Int.reduceSub, Int.reduceMul, Int.reduceNeg, Int.reduceToNat, reduceCtorEq, wi,  t13]
                refine ⟨m - 1, by omega, i + 1, x, by omega, ?_, ?_, ?_, ?_, ?_, ?_, ?_, by omega, hS'⟩
                all_goals (simp only [↓STEP, SB, looked, behind, lookOk, AAct.kind, AOp.kind, wpRes, evRes, resV, AOp.ev, bin, binI, binS, shiftI, eqV, un, bound, boundO, fill, fillRows, aggOf, keyEq, findKey, putKey, V.cells, V.flat, byteOf, bytesOf, rdOf, H.wr, H.kOf, splice, isYl, ↓reduceIte, Nat.reduceEqDiff, Nat.reduceLeDiff, Nat.reduceLT, Nat.reduceAdd, Nat.reduceSub, Nat.reduceMul, Int.reduceLT, Int.reduceLE, Int.reduceEq, Int.reduceAdd, Int.reduceSub, Int.reduceMul, Int.reduceNeg, Int.reduceToNat, reduceCtorEq, t12, t10, t11, t2, t8, t7] <;> rfl)
              · by_cases p2 : x ≥ now
                · have p3 : ¬ x ≤ 1099511627776 := fun q => p1 ⟨p2, q⟩
                  rw [if_neg p1] at hS' c17
                  have f0 : ¬ (-1 : Int) ≥ 0 := by omega
                  rw [if_neg (fun q => f0 q.1)] at c17
                  simp only [↓STEP, SB, looked, behind, lookOk, AAct.kind, AOp.kind, wpRes, evRes, resV, AOp.ev, bin, binI, binS, shiftI, eqV, un, bound, boundO, fill, fillRows, aggOf, keyEq, findKey, putKey, V.cells, V.flat, byteOf, bytesOf, rdOf, H.wr, H.kOf, splice, isYl, ↓reduceIte, Nat.reduceEqDiff, Nat.reduceLeDiff, Nat.reduceLT, Nat.reduceAdd, Nat.reduceSub, Nat.reduceMul, Int.reduceLT, Int.reduceLE, Int.reduceEq, Int.reduceAdd, Int.reduceSub, Int.reduceMul, Int.reduceNeg, Int.reduceToNat, reduceCtorEq, t13, t12, t10, t11, t2, t8, t7, hi1, hi2, hi3, g4, hx, x3, hg, wi, p2, p3, f0]
                  refine Runs.mono (c := .fn 10) («as» := [.p (some (base.nx + 17, 0, 0))] ++ []) (runs_of_wpF (pr := prT) (af := Am.c_endpoint_End_Closed) rfl (by kernel_rfl) (closed_walk hc c17)) ?_
                  rintro v2 g2 ⟨rfl, rfl⟩
                  simp only [↓STEP, SB, looked, behind, lookOk, AAct.kind, AOp.kind, wpRes, evRes, resV, AOp.ev, bin, binI, binS, shiftI, eqV, un, bound, boundO, fill, fillRows, aggOf, keyEq, findKey, putKey, V.cells, V.flat, byteOf, bytesOf, rdOf, H.wr, H.kOf, splice, isYl, ↓reduceIte, Nat.reduceEqDiff, Nat.reduceLeDiff, Nat.reduceLT, Nat.reduceAdd, Nat.reduceSub, Nat.reduceMul, Int.reduceLT, Int.reduceLE, Int.reduceEq, Int.reduceAdd, Int.reduceSub, Int.reduceMul, Int.reduceNeg, Int.reduceToNat, reduceCtorEq, wi,  t13]
                  refine ⟨m - 1, by omega, i + 1, now, by omega, ?_, ?_, ?_, ?_, ?_, ?_, ?_, by omega, hS'⟩
                  all_goals (simp only [↓STEP, SB, looked, behind, lookOk, AAct.kind, AOp.kind, wpRes, evRes, resV, AOp.ev, bin, binI, binS, shiftI, eqV, un, bound, boundO, fill, fillRows, aggOf, keyEq, findKey, putKey, V.cells, V.flat, byteOf, bytesOf, rdOf, H.wr, H.kOf, splice, isYl, ↓reduceIte, Nat.reduceEqDiff, Nat.reduceLeDiff, Nat.reduceLT, Nat.reduceAdd, Nat.reduceSub, Nat.reduceMul, Int.reduceLT, Int.reduceLE, Int.reduceEq, Int.reduceAdd, Int.reduceSub, Int.reduceMul, Int.reduceNeg, Int.reduceToNat, reduceCtorEq, t12, t10, t11, t2, t8, t7] <;> rfl)
                · rw [if_neg p1] at hS' c17
                  have f0 : ¬ (-1 : Int) ≥ 0 := by omega
                  rw [if_neg (fun q => f0 q.1)] at c17
                  simp only [↓STEP, SB, looked, behind, lookOk, AAct.kind, AOp.kind, wpRes, evRes, resV, AOp.ev, bin, binI, binS, shiftI, eqV, un, bound, boundO, fill, fillRows, aggOf, keyEq, findKey, putKey, V.cells, V.flat, byteOf, bytesOf, rdOf, H.wr, H.kOf, splice, isYl, ↓reduceIte, Nat.reduceEqDiff, Nat.reduceLeDiff, Nat.reduceLT, Nat.reduceAdd, Nat.reduceSub, Nat.reduceMul, Int.reduceLT, Int.reduceLE, Int.reduceEq, Int.reduceAdd, Int.reduceSub, Int.reduceMul, Int.reduceNeg, Int.reduceToNat, reduceCtorEq, t13, t12, t10, t11, t2, t8, t7, hi1, hi2, hi3, g4, hx, x3, hg, wi, p2, f0]
                  refine Runs.mono (c := .fn 10) («as» := [.p (some (base.nx + 17, 0, 0))] ++ []) (runs_of_wpF (pr := prT) (af := Am.c_endpoint_End_Closed) rfl (by kernel_rfl) (closed_walk hc c17)) ?_
                  rintro v2 g2 ⟨rfl, rfl⟩
                  simp only [↓STEP, SB, looked, behind, lookOk, AAct.kind, AOp.kind, wpRes, evRes, resV, AOp.ev, bin, binI, binS, shiftI, eqV, un, bound, boundO, fill, fillRows, aggOf, keyEq, findKey, putKey, V.cells, V.flat, byteOf, bytesOf, rdOf, H.wr, H.kOf, splice, isYl, ↓reduceIte, Nat.reduceEqDiff, Nat.reduceLeDiff, Nat.reduceLT, Nat.reduceAdd, Nat.reduceSub, Nat.reduceMul, Int.reduceLT, Int.reduceLE, Int.reduceEq, Int.reduceAdd, Int.reduceSub, Int.reduceMul, Int.reduceNeg, Int.reduceToNat, reduceCtorEq, wi,  t13]
                  refine ⟨m - 1, by omega, i + 1, now, by omega, ?_, ?_, ?_, ?_, ?_, ?_, ?_, by omega, hS'⟩
                  all_goals (simp only [↓STEP, SB, looked, behind, lookOk, AAct.kind, AOp.kind, wpRes, evRes, resV, AOp.ev, bin, binI, binS, shiftI, eqV, un, bound, boundO, fill, fillRows, aggOf, keyEq, findKey, putKey, V.cells, V.flat, byteOf, bytesOf, rdOf, H.wr, H.kOf, splice, isYl, ↓reduceIte, Nat.reduceEqDiff, Nat.reduceLeDiff, Nat.reduceLT, Nat.reduceAdd, Nat.reduceSub, Nat.reduceMul, Int.reduceLT, Int.reduceLE, Int.reduceEq, Int.reduceAdd, Int.reduceSub, Int.reduceMul, Int.reduceNeg, Int.reduceToNat, reduceCtorEq, t12, t10, t11, t2, t8, t7] <;> rfl)
            · by_cases hi1 : i < l.length
              · have hi1' : (i : Int) < (l.length : Int) := by omega
                have hi2 : ¬ (i : Int) < 20 := by omega
                simp only [↓STEP, SB, looked, behind, lookOk, AAct.kind, AOp.kind, wpRes, evRes, resV, AOp.ev, bin, binI, binS, shiftI, eqV, un, bound, boundO, fill, fillRows, aggOf, keyEq, findKey, putKey, V.cells, V.flat, byteOf, bytesOf, rdOf, H.wr, H.kOf, splice, isYl, ↓reduceIte, Nat.reduceEqDiff, Nat.reduceLeDiff, Nat.reduceLT, Nat.reduceAdd, Nat.reduceSub, Nat.reduceMul, Int.reduceLT, Int.reduceLE, Int.reduceEq, Int.reduceAdd, Int.reduceSub, Int.reduceMul, Int.reduceNeg, Int.reduceToNat, reduceCtorEq, t13, t12, t10, t11, t2, t8, t7, hi1', hi2]
              · have hi1' : ¬ (i : Int) < (l.length : Int) := by omega
                simp only [↓STEP, SB, looked, behind, lookOk, AAct.kind, AOp.kind, wpRes, evRes, resV, AOp.ev, bin, binI, binS, shiftI, eqV, un, bound, boundO, fill, fillRows, aggOf, keyEq, findKey, putKey, V.cells, V.flat, byteOf, bytesOf, rdOf, H.wr, H.kOf, splice, isYl, ↓reduceIte, Nat.reduceEqDiff, Nat.reduceLeDiff, Nat.reduceLT, Nat.reduceAdd, Nat.reduceSub, Nat.reduceMul, Int.reduceLT, Int.reduceLE, Int.reduceEq, Int.reduceAdd, Int.reduceSub, Int.reduceMul, Int.reduceNeg, Int.reduceToNat, reduceCtorEq, t13, t12, t10, t11, t2, t8, t7, hi1']
        all_goals (simp only [↓STEP, SB, looked, behind, lookOk, AAct.kind, AOp.kind, wpRes, evRes, resV, AOp.ev, bin, binI, binS, shiftI, eqV, un, bound, boundO, fill, fillRows, aggOf, keyEq, findKey, putKey, V.cells, V.flat, byteOf, bytesOf, rdOf, H.wr, H.kOf, splice, isYl, ↓reduceIte, Nat.reduceEqDiff, Nat.reduceLeDiff, Nat.reduceLT, Nat.reduceAdd, Nat.reduceSub, Nat.reduceMul, Int.reduceLT, Int.reduceLE, Int.reduceEq, Int.reduceAdd, Int.reduceSub, Int.reduceMul, Int.reduceNeg, Int.reduceToNat, reduceCtorEq])
        all_goals rfl
  · have y2 : ∀ h, gNew own0 cB [.i .i64 role, .i .i64 0, vList0, .agg [.i .i64 a, .i .i64 b, .i .i64 0, .i .i64 d, .i .i64 0], .i .i64 0] h = some (.tup [.p none, .i .i64 1], h) := fun h => by
      unfold gNew
      simp only
      rw [if_pos hv]
      by_cases h1 : (timeOk a && timeOk b && timeOk 0 && timeOk d && timeOk 0) = true
      · rw [if_pos h1, if_neg (fun h2 => hok ⟨h1, h2⟩)]
      · rw [if_neg h1]
    simp only [↓STEP, SB, looked, behind, lookOk, AAct.kind, AOp.kind, wpRes, evRes, resV, AOp.ev, bin, binI, binS, shiftI, eqV, un, bound, boundO, fill, fillRows, aggOf, keyEq, findKey, putKey, V.cells, V.flat, byteOf, bytesOf, rdOf, H.wr, H.kOf, splice, isYl, ↓reduceIte, Nat.reduceEqDiff, Nat.reduceLeDiff, Nat.reduceLT, Nat.reduceAdd, Nat.reduceSub, Nat.reduceMul, Int.reduceLT, Int.reduceLE, Int.reduceEq, Int.reduceAdd, Int.reduceSub, Int.reduceMul, Int.reduceNeg, Int.reduceToNat, reduceCtorEq, x2, y2, List.getElem?_cons_zero, List.getElem?_cons_succ]
    rfl
theorem ints {xs : List Dt} (h : Dt.hasA (.i .i64) xs) : ∃ l : List Int, xs = l.map (fun n => Dt.i .i64 n) := by
  induction xs with
  | nil => exact ⟨[], rfl⟩
  | cons x xs ih =>
    obtain ⟨hx, hxs⟩ := h
    obtain ⟨n, rfl, _⟩ := has_i hx
    obtain ⟨l, rfl⟩ := ih hxs
    exact ⟨n :: l, rfl⟩
theorem ints_lay (h : H) : ∀ l : List Int, Dt.layR (l.map (fun n => Dt.i .i64 n)) h = (l.map (fun n => [V.i .i64 n]), h)
  | [] => rfl
  | n :: l => by
    show (([V.i .i64 n] : List V) :: (Dt.layR (l.map (fun n => Dt.i .i64 n)) h).1, (Dt.layR (l.map (fun n => Dt.i .i64 n)) h).2) = _
    rw [ints_lay h l]; rfl
theorem idleLaw (xs : List Dt) (h : Dt.hasL [.i .i64, .st [.i .i64, .i .i64, .i .i64, .i .i64, .i .i64], .sl 1 (.i .i64)] xs) : ∃ m v h', Am.runN prT m (.fn 3) (Dt.args xs h0).1 (Dt.args xs h0).2 = some (v, h') ∧ v = .b true := by
  obtain ⟨x, xs, rfl, hx, h⟩ := hasL_cons h
  obtain ⟨y, xs, rfl, hy, h⟩ := hasL_cons h
  obtain ⟨z, xs, rfl, hz, h⟩ := hasL_cons h
  obtain rfl := hasL_nil h
  obtain ⟨role, rfl, _, _⟩ := has_i hx
  obtain ⟨ys, rfl, hy⟩ := has_st hy
  obtain ⟨y1, ys, rfl, h1, hy⟩ := hasL_cons hy
  obtain ⟨y2, ys, rfl, h2, hy⟩ := hasL_cons hy
  obtain ⟨y3, ys, rfl, h3, hy⟩ := hasL_cons hy
  obtain ⟨y4, ys, rfl, h4, hy⟩ := hasL_cons hy
  obtain ⟨y5, ys, rfl, h5, hy⟩ := hasL_cons hy
  obtain rfl := hasL_nil hy
  obtain ⟨a, rfl, _, _⟩ := has_i h1
  obtain ⟨b, rfl, _, _⟩ := has_i h2
  obtain ⟨c, rfl, _, _⟩ := has_i h3
  obtain ⟨d, rfl, _, _⟩ := has_i h4
  obtain ⟨f, rfl, _, _⟩ := has_i h5
  rcases has_sl hz with rfl | ⟨zs, rfl, hlen, hzs⟩
  · exact idle_walk role a b c d f (.sl none 0 0 true) h0 (.inl rfl) [] (.inl ⟨rfl, _, _, _, rfl⟩)
  · obtain ⟨l, rfl⟩ := ints hzs
    cases l with
    | nil => exact idle_walk role a b c d f (.sl (some (4096, 0)) 0 0 false) ⟨4097, .e⟩ (.inr (.inl rfl)) [] (.inl ⟨rfl, _, _, _, rfl⟩)
    | cons n l =>
      have e : Dt.args [.i .i64 role, .st [.i .i64 a, .i .i64 b, .i .i64 c, .i .i64 d, .i .i64 f], .sl 1 ((n :: l).map (fun n => Dt.i .i64 n))] h0 = ([.i .i64 role, .agg [.i .i64 a, .i .i64 b, .i .i64 c, .i .i64 d, .i .i64 f], .sl (some (4096, 0)) (n :: l).length (n :: l).length false], h0.push (.rows 1 ((n :: l).map (fun n => [V.i .i64 n])) true)) := by
        simp only [Dt.args, Dt.arg, Dt.lay, Dt.layL, ints_lay]
        simp [h0]
      rw [e]
      exact idle_walk role a b c d f _ (h0.push (.rows 1 ((n :: l).map (fun n => [V.i .i64 n])) true)) (.inr (.inr ⟨_, rfl⟩)) (n :: l) (.inr ⟨true, by rw [H.get_push]; exact if_pos rfl, rfl, rfl⟩)
end Go.Proofs.YtfabolagjlhdpaaGreat.EndSeat
