/- endpoint: what is done as the asking is due. -/
import Derived.Test.YtfabolagjlhdpaaGreatEnd6
import Derived.Test.YtfabolagjlhdpaaGreatCodesAll
namespace Am
set_option linter.all false
set_option maxRecDepth 20000
set_option maxHeartbeats 8000000
open Go (IntKind)
variable {pr : Prog}
def aliveB : Blk := .bytes [107, 101, 101, 112, 97, 108, 105, 118] false
theorem due_ask {k1 k2 k3 k4 k5 kP ka k9 k10 kA kk : Nat} (xk : pr.ext kk = some gKind) (xA : pr.ext kA = none) (fA : pr.fn kA = some (c_timer_Set_Arm kk)) (xa : pr.ext ka = none) (fa : pr.fn ka = some (c_endpoint_End_arm kA)) {h : H} {e ts cp : Nat} {c : Nat → V} {T : Nat → Int} {now : Int} {A : Nat → Int} {B : Nat → Bool} {Kp : Nat → Blk → Prop}
    (hne : e ≠ ts) (hlt : e < h.nx) (hts : ts < h.nx) (ge : h.get e = some (.rows 23 [eRow c] false)) (c13 : c 13 = .p (some (cp, 0, 0))) (cT : TimesAt c T) (c12 : c 12 = .i .i64 now) (c15 : c 15 = .p (some (ts, 0, 0))) (n0 : 0 ≤ now) (n1 : now ≤ 1099511627776) (h4 : T 4 ≤ 1099511627776) (p4 : 0 < T 4) (hKp : ∀ i x, Kp i x → i ≠ ts)
    (hP : Runs pr (.fn kP) [.p (some (cp, 0, 0)), .sl (some (h.nx, 0)) 8 8 false] ((h.push aliveB).set h.nx aliveB) (fun v g => g.get e = some (.rows 23 [eRow c] false) ∧ g.get ts = some (.rows 12 [tRow A B] false) ∧ h.nx ≤ g.nx ∧ ∀ i x, Kp i x → g.get i = some x)) :
    wpF pr (c_endpoint_End_due k1 k2 k3 k4 k5 kP ka k9 k10) [.p (some (e, 0, 0)), .i .i64 3] h (fun v g => v = .un ∧ g.get e = some (.rows 23 [eRow c] false) ∧ g.get ts = some (.rows 12 [tRow (setF A 4 (min (now + T 4) 1099511627776)) (setF B 4 true)] false) ∧ h.nx ≤ g.nx ∧ ∀ i x, Kp i x → g.get i = some x) := by
  have hn : e ≠ h.nx := by omega
  have hn2 : ¬ h.nx = e := by omega
  have bb : bytesOf [[V.i IntKind.u8 107], [V.i IntKind.u8 101], [V.i IntKind.u8 101], [V.i IntKind.u8 112], [V.i IntKind.u8 97], [V.i IntKind.u8 108], [V.i IntKind.u8 105], [V.i IntKind.u8 118]].flatten = some [107, 101, 101, 112, 97, 108, 105, 118] := rfl
  have ge' := ge
  unfold eRow at ge
  unfold aliveB at hP
  unfold wpF c_endpoint_End_due
  refine ⟨by simp, ?_⟩
  simp only [↓STEP, go_sem, ↓reduceIte, Nat.reduceEqDiff, Nat.reduceLeDiff, Nat.reduceLT, Nat.reduceAdd, Nat.reduceSub, Nat.reduceMul, Int.reduceLT, Int.reduceLE, Int.reduceEq, Int.reduceAdd, Int.reduceSub, Int.reduceMul, Int.reduceNeg, Int.reduceToNat, reduceCtorEq, ge, c13, hn, hn2, bb]
  refine Runs.mono hP ?_
  rintro v g ⟨d1, d2, d3, d4⟩
  refine Runs.mono (c := .fn ka) (as := [.p (some (e, 0, 0)), .i .i64 4] ++ []) (runs_of_wpF xa fa (arm_runs xk xA fA (k := 4) (by omega) (by omega) d1 d2 cT c12 c15 n0 n1 h4)) ?_
  rintro v2 g2 ⟨rfl, rfl⟩
  rw [if_pos p4]
  refine ⟨?_, by rw [H.get_set, if_pos rfl], d3, fun i x q => by rw [H.get_set, if_neg (hKp i x q)]; exact d4 i x q⟩
  rw [H.get_set, if_neg hne]; exact d1
end Am
