/- The law EndKeep at its seat: the other end is asked (the ping). -/
import Derived.Test.YtfabolagjlhdpaaGreatEndK5
namespace Go.Proofs.YtfabolagjlhdpaaGreat.EndK
open Am
set_option linter.all false
set_option maxRecDepth 100000
theorem of_ping {h : H} {ys : List V} {g0 : H} {f i1 i2 i3 i4 i5 m : Nat} {a1 a2 a3 a4 a5 : Option Blk} {l : List (Option Blk)} {w : V} (hk : ∀ K : Kl, runK prN 3000 (.fn f) ys g0 (fun v g => K (getK g.tr i1 :: getK g.tr i2 :: getK g.tr i3 :: getK g.tr i4 :: getK g.tr i5 :: looks h g) (Nat.ble m g.nx).toNat v) = K (a1 :: a2 :: a3 :: a4 :: a5 :: l) 1 w) :
    Runs prN (.fn f) ys g0 (fun v g => g.get i1 = a1 ∧ g.get i2 = a2 ∧ g.get i3 = a3 ∧ g.get i4 = a4 ∧ g.get i5 = a5 ∧ looks h g = l ∧ m ≤ g.nx) := by
  open Classical in
  have h := hk (fun l' m v => decide (l' = a1 :: a2 :: a3 :: a4 :: a5 :: l ∧ m = 1))
  simp only [and_self, decide_true] at h
  obtain ⟨v, g, hv, hq⟩ := runK_true prN 3000 _ _ _ _ h
  have hq := of_decide_eq_true hq
  simp only [getK_eq, List.cons.injEq] at hq
  obtain ⟨⟨q1, q2, q3, q4, q5, q6⟩, q7⟩ := hq
  refine ⟨3000, v, g, hv, q1, q2, q3, q4, q5, q6, ?_⟩
  cases hb : Nat.ble m g.nx with
  | true => exact Nat.le_of_ble_eq_true hb
  | false => rw [hb] at q7; cases q7
theorem pingAll (h : H) (z : Blk) (hh : h = h0.push z) (ob tb : Blk) (role : Int) (A : Nat → Int) (B : Nat → Bool) (T : Nat → Int) (now t : Int) (LS : LoopSt) (hr : role = 1 ∨ role = 2) :
    Runs prN (.fn 63) [.p (some (h.nx + 8, 0, 0)), .sl (some (h.nx + 24, 0)) 8 8 false] (((dueH (jH cT h ob tb role A B T now) (h.nx + 16) (h.nx + 15) (endC role own0 T now h.nx true) A B t 3 LS).push aliveB).set (h.nx + 24) aliveB)
      (fun v g => g.get (h.nx + 19) = some (.rows 1 [[.p (some (h.nx + 16, 0, 0))]] false) ∧ g.get (h.nx + 20) = some (.rows 1 [[.p (some (h.nx + 15, 0, 0))]] false) ∧ g.get (h.nx + 21) = some (.rows 1 [[.i .i64 t]] false) ∧ g.get (h.nx + 22) = some (.loop { LS with st := .busy }) ∧ g.get (h.nx + 23) = some (.rows 6 [cRow (fun i => decide (i = 3))] false) ∧
        looks h g = sees ob tb (cP role (h.nx + 2)) role (fun i => if i = 3 then 0 else A i) (fun i => if i = 3 then false else B i) (upd (endC role own0 T now h.nx true) 12 (.i .i64 t)) (some z) ∧ h.nx + 25 ≤ g.nx) := by
  subst hh
  rcases hr with rfl | rfl
  · exact of_ping (h := h0.push z) fun K => ping1 z ob tb A B T now t LS K
  · exact of_ping (h := h0.push z) fun K => ping2 z ob tb A B T now t LS K
theorem of_dead {ys : List V} {g0 : H} {f i1 i2 i3 : Nat} {a1 a2 a3 a4 : Option Blk} {n : Nat} (hk : ∀ K : Kt, runK prN 3000 (.fn f) ys g0 (fun v g => K (getK g.tr i1) (getK g.tr i2) (getK g.tr i3) (getK g.tr 4096) g.nx v) = K a1 a2 a3 a4 n (.tup [])) :
    Runs prN (.fn f) ys g0 (fun v g => v = .un ∧ g.get i1 = a1 ∧ g.get i2 = a2 ∧ g.get i3 = a3 ∧ g.get 4096 = a4 ∧ g.nx = n) := by
  open Classical in
  have h := hk (fun b1 b2 b3 b4 m v => decide (b1 = a1 ∧ b2 = a2 ∧ b3 = a3 ∧ b4 = a4 ∧ m = n ∧ v = .tup []))
  simp only [and_self, decide_true] at h
  obtain ⟨v, g, hv, hq⟩ := runK_true prN 3000 _ _ _ _ h
  have hq := of_decide_eq_true hq
  simp only [getK_eq] at hq
  exact ⟨3000, v, g, hv, hq.2.2.2.2.2, hq.1, hq.2.1, hq.2.2.1, hq.2.2.2.1, hq.2.2.2.2.1⟩
theorem deadAll (h : H) (z : Blk) (hh : h = h0.push z) (ob tb : Blk) (role : Int) (A : Nat → Int) (B : Nat → Bool) (T : Nat → Int) (now t : Int) (LS : LoopSt) (hr : role = 1 ∨ role = 2) :
    Runs prN (.fn 27) [.p (some (h.nx + 16, 0, 0)), .i .i64 4] (dueH (jH cP h ob tb role A B T now) (h.nx + 16) (h.nx + 15) (endC role own0 T now h.nx true) A B t 4 LS)
        (fun v g => v = .un ∧ g.get (h.nx + 16) = some (.rows 23 [eRow (shutC own0 role T t h.nx 4 (.sl (some (h.nx + 30, 0)) 1 1 false))] false) ∧ g.get (h.nx + 19) = some (.rows 1 [[.p (some (h.nx + 16, 0, 0))]] false) ∧ g.get (h.nx + 22) = some (.loop { LS with st := .busy }) ∧ h.nx + 22 < g.nx ∧ ∀ i x, h.get i = some x → g.get i = some x) := by
  subst hh
  rcases hr with rfl | rfl
  · refine Runs.mono (of_dead fun K => dead1 z ob tb A B T now t LS K) ?_
    rintro v g ⟨rfl, q1, q2, q3, q4, q5⟩
    exact ⟨rfl, q1, q2, q3, by rw [q5]; show 4096 + 1 + 22 < _; omega, keeps_of q4⟩
  · refine Runs.mono (of_dead fun K => dead2 z ob tb A B T now t LS K) ?_
    rintro v g ⟨rfl, q1, q2, q3, q4, q5⟩
    exact ⟨rfl, q1, q2, q3, by rw [q5]; show 4096 + 1 + 22 < _; omega, keeps_of q4⟩
end Go.Proofs.YtfabolagjlhdpaaGreat.EndK
