/- The law EndKeep at its seat: what waits; the program with Take and Tick as contracts. -/
import Derived.Test.YtfabolagjlhdpaaGreatEndK8
import Derived.Test.YtfabolagjlhdpaaGreatAmGcB
namespace Go.Proofs.YtfabolagjlhdpaaGreat.EndK
open Am
set_option linter.all false
set_option maxRecDepth 100000
set_option maxHeartbeats 8000000
theorem takeX : ExtFor Tryz.prog 16 (gRl TakeR) := (okN.addRl (af := Am.c_endpoint_End_Take 40 41) (by kernel_rfl) (by kernel_rfl) take_runs).ext _ _ ext_add_same
theorem tickKX : ExtFor Tryz.prog 9 (gRl TickK) := (okN.addRl (af := Am.c_endpoint_End_Tick 26 27 28) (by kernel_rfl) (by kernel_rfl) tickK_runs).ext _ _ ext_add_same
noncomputable def prU : Prog := (prN.add 16 (gRl TakeR)).add 9 (gRl TickK)
theorem okU : ProgOk Tryz.prog prU := (okN.addFor takeX).addFor tickKX
theorem of_wait {ys : List V} {g0 : H} {f : Nat} {w : V} (hk : ∀ K : V → Bool, runK prU 3000 (.fn f) ys g0 (fun v g => K v) = K w) : Runs prU (.fn f) ys g0 (fun v g => v = w) := by
  open Classical in
  have h := hk (fun v => decide (v = w))
  simp only [decide_true] at h
  obtain ⟨v, g, hv, hq⟩ := runK_true prU 3000 _ _ _ _ h
  exact ⟨3000, v, g, hv, of_decide_eq_true hq⟩
theorem wait1fa (ob tb : Blk) (A : Nat → Int) (B : Nat → Bool) (T : Nat → Int) (now : Int) (K : V → Bool) : runK prU 3000 (.fn 17) [.p (some (4112, 0, 0))] (jH cT ⟨4096, .e⟩ ob tb 1 A B T now) (fun v g => K v) = K (.i .i64 0) := by kernel_rfl
theorem wait1fb (ob tb : Blk) (A : Nat → Int) (B : Nat → Bool) (T : Nat → Int) (now : Int) (K : V → Bool) : runK prU 3000 (.fn 17) [.p (some (4113, 0, 0))] (jH cT ⟨4097, .e⟩ ob tb 1 A B T now) (fun v g => K v) = K (.i .i64 0) := by kernel_rfl
theorem wait1fc (z : Blk) (ob tb : Blk) (A : Nat → Int) (B : Nat → Bool) (T : Nat → Int) (now : Int) (K : V → Bool) : runK prU 3000 (.fn 17) [.p (some (4113, 0, 0))] (jH cT (h0.push z) ob tb 1 A B T now) (fun v g => K v) = K (.i .i64 0) := by kernel_rfl
theorem wait1tc (z : Blk) (ob tb : Blk) (A : Nat → Int) (B : Nat → Bool) (T : Nat → Int) (now : Int) (K : V → Bool) : runK prU 3000 (.fn 17) [.p (some (4113, 0, 0))] (jH cP (h0.push z) ob tb 1 A B T now) (fun v g => K v) = K (.i .i64 17) := by kernel_rfl
theorem wait2fa (ob tb : Blk) (A : Nat → Int) (B : Nat → Bool) (T : Nat → Int) (now : Int) (K : V → Bool) : runK prU 3000 (.fn 17) [.p (some (4112, 0, 0))] (jH cT ⟨4096, .e⟩ ob tb 2 A B T now) (fun v g => K v) = K (.i .i64 0) := by kernel_rfl
theorem wait2fb (ob tb : Blk) (A : Nat → Int) (B : Nat → Bool) (T : Nat → Int) (now : Int) (K : V → Bool) : runK prU 3000 (.fn 17) [.p (some (4113, 0, 0))] (jH cT ⟨4097, .e⟩ ob tb 2 A B T now) (fun v g => K v) = K (.i .i64 0) := by kernel_rfl
theorem wait2fc (z : Blk) (ob tb : Blk) (A : Nat → Int) (B : Nat → Bool) (T : Nat → Int) (now : Int) (K : V → Bool) : runK prU 3000 (.fn 17) [.p (some (4113, 0, 0))] (jH cT (h0.push z) ob tb 2 A B T now) (fun v g => K v) = K (.i .i64 0) := by kernel_rfl
theorem wait2tc (z : Blk) (ob tb : Blk) (A : Nat → Int) (B : Nat → Bool) (T : Nat → Int) (now : Int) (K : V → Bool) : runK prU 3000 (.fn 17) [.p (some (4113, 0, 0))] (jH cP (h0.push z) ob tb 2 A B T now) (fun v g => K v) = K (.i .i64 17) := by kernel_rfl
theorem waitT (h : H) (ob tb : Blk) (role : Int) (A : Nat → Int) (B : Nat → Bool) (T : Nat → Int) (now : Int) (hb : Base h) (hr : role = 1 ∨ role = 2) :
    Runs prU (.fn 17) [.p (some (h.nx + 16, 0, 0))] (jH cT h ob tb role A B T now) (fun v g => v = .i .i64 0) := by
  rcases hb with rfl | rfl | ⟨z, rfl⟩ <;> rcases hr with rfl | rfl
  · exact of_wait fun K => wait1fa ob tb A B T now K
  · exact of_wait fun K => wait2fa ob tb A B T now K
  · exact of_wait fun K => wait1fb ob tb A B T now K
  · exact of_wait fun K => wait2fb ob tb A B T now K
  · exact of_wait fun K => wait1fc z ob tb A B T now K
  · exact of_wait fun K => wait2fc z ob tb A B T now K
theorem waitP (h : H) (z : Blk) (hh : h = h0.push z) (ob tb : Blk) (role : Int) (A : Nat → Int) (B : Nat → Bool) (T : Nat → Int) (now : Int) (hr : role = 1 ∨ role = 2) :
    Runs prU (.fn 17) [.p (some (h.nx + 16, 0, 0))] (jH cP h ob tb role A B T now) (fun v g => v = .i .i64 17) := by
  subst hh
  rcases hr with rfl | rfl
  · exact of_wait fun K => wait1tc z ob tb A B T now K
  · exact of_wait fun K => wait2tc z ob tb A B T now K
end Go.Proofs.YtfabolagjlhdpaaGreat.EndK
