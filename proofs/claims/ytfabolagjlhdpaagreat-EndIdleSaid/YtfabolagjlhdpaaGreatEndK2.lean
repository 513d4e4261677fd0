/- The laws of layer 19 at their seat: what is done as a deadline is due, run by the kernel with numbers that are free. -/
import Derived.Test.YtfabolagjlhdpaaGreatEndK1
import Derived.Test.YtfabolagjlhdpaaGreatEnd9
namespace Go.Proofs.YtfabolagjlhdpaaGreat.EndK
open Am
set_option linter.all false
set_option maxRecDepth 100000
/-- The heaps below an end: no ticks, none, some. -/
def Base (b : H) : Prop := b = ⟨4096, .e⟩ ∨ b = ⟨4097, .e⟩ ∨ ∃ x, b = h0.push x
abbrev eH (base : H) (x1 ob tb : Blk) (role : Int) (A : Nat → Int) (B : Nat → Bool) (T : Nat → Int) (now : Int) : H := endH own0 cB base x1 ob tb role A B T now
abbrev dH (base : H) (x1 ob tb : Blk) (role : Int) (A : Nat → Int) (B : Nat → Bool) (T : Nat → Int) (now t : Int) (k : Nat) (LS : LoopSt) : H := dueH (eH base x1 ob tb role A B T now) (base.nx + 17) (base.nx + 16) (endC role own0 T now (base.nx + 1) true) A B t k LS
abbrev Kt := Option Blk → Option Blk → Option Blk → Option Blk → Nat → V → Bool
noncomputable def dK (base : H) (K : Kt) : V → H → Bool := fun v g => K (getK g.tr (base.nx + 17)) (getK g.tr (base.nx + 19)) (getK g.tr (base.nx + 22)) (getK g.tr 4096) g.nx v
theorem d11a (x1 ob tb : Blk) (A : Nat → Int) (B : Nat → Bool) (T : Nat → Int) (now t : Int) (LS : LoopSt) (K : Kt) : runK prN 3000 (.fn 27) [.p (some (4113, 0, 0)), .i .i64 1] (dH ⟨4096, .e⟩ x1 ob tb 1 A B T now t 1 LS) (dK ⟨4096, .e⟩ K) = K (some (.rows 23 [eRow (shutC own0 1 T t 4097 1 (.sl (some (4096 + atOf 1, 0)) (evOf 1) (evOf 1) false))] false)) (some (.rows 1 [[.p (some (4113, 0, 0))]] false)) (some (.loop { LS with st := .busy })) (some x1) 4167 (.tup []) := by kernel_rfl
theorem d11b (x1 ob tb : Blk) (A : Nat → Int) (B : Nat → Bool) (T : Nat → Int) (now t : Int) (LS : LoopSt) (K : Kt) : runK prN 3000 (.fn 27) [.p (some (4114, 0, 0)), .i .i64 1] (dH ⟨4097, .e⟩ x1 ob tb 1 A B T now t 1 LS) (dK ⟨4097, .e⟩ K) = K (some (.rows 23 [eRow (shutC own0 1 T t 4098 1 (.sl (some (4097 + atOf 1, 0)) (evOf 1) (evOf 1) false))] false)) (some (.rows 1 [[.p (some (4114, 0, 0))]] false)) (some (.loop { LS with st := .busy })) none 4168 (.tup []) := by kernel_rfl
theorem d11c (z : Blk) (x1 ob tb : Blk) (A : Nat → Int) (B : Nat → Bool) (T : Nat → Int) (now t : Int) (LS : LoopSt) (K : Kt) : runK prN 3000 (.fn 27) [.p (some (4114, 0, 0)), .i .i64 1] (dH (h0.push z) x1 ob tb 1 A B T now t 1 LS) (dK (h0.push z) K) = K (some (.rows 23 [eRow (shutC own0 1 T t 4098 1 (.sl (some (4097 + atOf 1, 0)) (evOf 1) (evOf 1) false))] false)) (some (.rows 1 [[.p (some (4114, 0, 0))]] false)) (some (.loop { LS with st := .busy })) (some z) 4168 (.tup []) := by kernel_rfl
theorem d12a (x1 ob tb : Blk) (A : Nat → Int) (B : Nat → Bool) (T : Nat → Int) (now t : Int) (LS : LoopSt) (K : Kt) : runK prN 3000 (.fn 27) [.p (some (4113, 0, 0)), .i .i64 2] (dH ⟨4096, .e⟩ x1 ob tb 1 A B T now t 2 LS) (dK ⟨4096, .e⟩ K) = K (some (.rows 23 [eRow (shutC own0 1 T t 4097 2 (.sl (some (4096 + atOf 2, 0)) (evOf 2) (evOf 2) false))] false)) (some (.rows 1 [[.p (some (4113, 0, 0))]] false)) (some (.loop { LS with st := .busy })) (some x1) 4160 (.tup []) := by kernel_rfl
theorem d12b (x1 ob tb : Blk) (A : Nat → Int) (B : Nat → Bool) (T : Nat → Int) (now t : Int) (LS : LoopSt) (K : Kt) : runK prN 3000 (.fn 27) [.p (some (4114, 0, 0)), .i .i64 2] (dH ⟨4097, .e⟩ x1 ob tb 1 A B T now t 2 LS) (dK ⟨4097, .e⟩ K) = K (some (.rows 23 [eRow (shutC own0 1 T t 4098 2 (.sl (some (4097 + atOf 2, 0)) (evOf 2) (evOf 2) false))] false)) (some (.rows 1 [[.p (some (4114, 0, 0))]] false)) (some (.loop { LS with st := .busy })) none 4161 (.tup []) := by kernel_rfl
theorem d12c (z : Blk) (x1 ob tb : Blk) (A : Nat → Int) (B : Nat → Bool) (T : Nat → Int) (now t : Int) (LS : LoopSt) (K : Kt) : runK prN 3000 (.fn 27) [.p (some (4114, 0, 0)), .i .i64 2] (dH (h0.push z) x1 ob tb 1 A B T now t 2 LS) (dK (h0.push z) K) = K (some (.rows 23 [eRow (shutC own0 1 T t 4098 2 (.sl (some (4097 + atOf 2, 0)) (evOf 2) (evOf 2) false))] false)) (some (.rows 1 [[.p (some (4114, 0, 0))]] false)) (some (.loop { LS with st := .busy })) (some z) 4161 (.tup []) := by kernel_rfl
theorem d14a (x1 ob tb : Blk) (A : Nat → Int) (B : Nat → Bool) (T : Nat → Int) (now t : Int) (LS : LoopSt) (K : Kt) : runK prN 3000 (.fn 27) [.p (some (4113, 0, 0)), .i .i64 4] (dH ⟨4096, .e⟩ x1 ob tb 1 A B T now t 4 LS) (dK ⟨4096, .e⟩ K) = K (some (.rows 23 [eRow (shutC own0 1 T t 4097 4 (.sl (some (4096 + atOf 4, 0)) (evOf 4) (evOf 4) false))] false)) (some (.rows 1 [[.p (some (4113, 0, 0))]] false)) (some (.loop { LS with st := .busy })) (some x1) 4127 (.tup []) := by kernel_rfl
theorem d14b (x1 ob tb : Blk) (A : Nat → Int) (B : Nat → Bool) (T : Nat → Int) (now t : Int) (LS : LoopSt) (K : Kt) : runK prN 3000 (.fn 27) [.p (some (4114, 0, 0)), .i .i64 4] (dH ⟨4097, .e⟩ x1 ob tb 1 A B T now t 4 LS) (dK ⟨4097, .e⟩ K) = K (some (.rows 23 [eRow (shutC own0 1 T t 4098 4 (.sl (some (4097 + atOf 4, 0)) (evOf 4) (evOf 4) false))] false)) (some (.rows 1 [[.p (some (4114, 0, 0))]] false)) (some (.loop { LS with st := .busy })) none 4128 (.tup []) := by kernel_rfl
theorem d14c (z : Blk) (x1 ob tb : Blk) (A : Nat → Int) (B : Nat → Bool) (T : Nat → Int) (now t : Int) (LS : LoopSt) (K : Kt) : runK prN 3000 (.fn 27) [.p (some (4114, 0, 0)), .i .i64 4] (dH (h0.push z) x1 ob tb 1 A B T now t 4 LS) (dK (h0.push z) K) = K (some (.rows 23 [eRow (shutC own0 1 T t 4098 4 (.sl (some (4097 + atOf 4, 0)) (evOf 4) (evOf 4) false))] false)) (some (.rows 1 [[.p (some (4114, 0, 0))]] false)) (some (.loop { LS with st := .busy })) (some z) 4128 (.tup []) := by kernel_rfl
theorem d21a (x1 ob tb : Blk) (A : Nat → Int) (B : Nat → Bool) (T : Nat → Int) (now t : Int) (LS : LoopSt) (K : Kt) : runK prN 3000 (.fn 27) [.p (some (4113, 0, 0)), .i .i64 1] (dH ⟨4096, .e⟩ x1 ob tb 2 A B T now t 1 LS) (dK ⟨4096, .e⟩ K) = K (some (.rows 23 [eRow (shutC own0 2 T t 4097 1 (.sl (some (4096 + atOf 1, 0)) (evOf 1) (evOf 1) false))] false)) (some (.rows 1 [[.p (some (4113, 0, 0))]] false)) (some (.loop { LS with st := .busy })) (some x1) 4167 (.tup []) := by kernel_rfl
theorem d21b (x1 ob tb : Blk) (A : Nat → Int) (B : Nat → Bool) (T : Nat → Int) (now t : Int) (LS : LoopSt) (K : Kt) : runK prN 3000 (.fn 27) [.p (some (4114, 0, 0)), .i .i64 1] (dH ⟨4097, .e⟩ x1 ob tb 2 A B T now t 1 LS) (dK ⟨4097, .e⟩ K) = K (some (.rows 23 [eRow (shutC own0 2 T t 4098 1 (.sl (some (4097 + atOf 1, 0)) (evOf 1) (evOf 1) false))] false)) (some (.rows 1 [[.p (some (4114, 0, 0))]] false)) (some (.loop { LS with st := .busy })) none 4168 (.tup []) := by kernel_rfl
theorem d21c (z : Blk) (x1 ob tb : Blk) (A : Nat → Int) (B : Nat → Bool) (T : Nat → Int) (now t : Int) (LS : LoopSt) (K : Kt) : runK prN 3000 (.fn 27) [.p (some (4114, 0, 0)), .i .i64 1] (dH (h0.push z) x1 ob tb 2 A B T now t 1 LS) (dK (h0.push z) K) = K (some (.rows 23 [eRow (shutC own0 2 T t 4098 1 (.sl (some (4097 + atOf 1, 0)) (evOf 1) (evOf 1) false))] false)) (some (.rows 1 [[.p (some (4114, 0, 0))]] false)) (some (.loop { LS with st := .busy })) (some z) 4168 (.tup []) := by kernel_rfl
theorem d22a (x1 ob tb : Blk) (A : Nat → Int) (B : Nat → Bool) (T : Nat → Int) (now t : Int) (LS : LoopSt) (K : Kt) : runK prN 3000 (.fn 27) [.p (some (4113, 0, 0)), .i .i64 2] (dH ⟨4096, .e⟩ x1 ob tb 2 A B T now t 2 LS) (dK ⟨4096, .e⟩ K) = K (some (.rows 23 [eRow (shutC own0 2 T t 4097 2 (.sl (some (4096 + atOf 2, 0)) (evOf 2) (evOf 2) false))] false)) (some (.rows 1 [[.p (some (4113, 0, 0))]] false)) (some (.loop { LS with st := .busy })) (some x1) 4160 (.tup []) := by kernel_rfl
theorem d22b (x1 ob tb : Blk) (A : Nat → Int) (B : Nat → Bool) (T : Nat → Int) (now t : Int) (LS : LoopSt) (K : Kt) : runK prN 3000 (.fn 27) [.p (some (4114, 0, 0)), .i .i64 2] (dH ⟨4097, .e⟩ x1 ob tb 2 A B T now t 2 LS) (dK ⟨4097, .e⟩ K) = K (some (.rows 23 [eRow (shutC own0 2 T t 4098 2 (.sl (some (4097 + atOf 2, 0)) (evOf 2) (evOf 2) false))] false)) (some (.rows 1 [[.p (some (4114, 0, 0))]] false)) (some (.loop { LS with st := .busy })) none 4161 (.tup []) := by kernel_rfl
theorem d22c (z : Blk) (x1 ob tb : Blk) (A : Nat → Int) (B : Nat → Bool) (T : Nat → Int) (now t : Int) (LS : LoopSt) (K : Kt) : runK prN 3000 (.fn 27) [.p (some (4114, 0, 0)), .i .i64 2] (dH (h0.push z) x1 ob tb 2 A B T now t 2 LS) (dK (h0.push z) K) = K (some (.rows 23 [eRow (shutC own0 2 T t 4098 2 (.sl (some (4097 + atOf 2, 0)) (evOf 2) (evOf 2) false))] false)) (some (.rows 1 [[.p (some (4114, 0, 0))]] false)) (some (.loop { LS with st := .busy })) (some z) 4161 (.tup []) := by kernel_rfl
theorem d24a (x1 ob tb : Blk) (A : Nat → Int) (B : Nat → Bool) (T : Nat → Int) (now t : Int) (LS : LoopSt) (K : Kt) : runK prN 3000 (.fn 27) [.p (some (4113, 0, 0)), .i .i64 4] (dH ⟨4096, .e⟩ x1 ob tb 2 A B T now t 4 LS) (dK ⟨4096, .e⟩ K) = K (some (.rows 23 [eRow (shutC own0 2 T t 4097 4 (.sl (some (4096 + atOf 4, 0)) (evOf 4) (evOf 4) false))] false)) (some (.rows 1 [[.p (some (4113, 0, 0))]] false)) (some (.loop { LS with st := .busy })) (some x1) 4127 (.tup []) := by kernel_rfl
theorem d24b (x1 ob tb : Blk) (A : Nat → Int) (B : Nat → Bool) (T : Nat → Int) (now t : Int) (LS : LoopSt) (K : Kt) : runK prN 3000 (.fn 27) [.p (some (4114, 0, 0)), .i .i64 4] (dH ⟨4097, .e⟩ x1 ob tb 2 A B T now t 4 LS) (dK ⟨4097, .e⟩ K) = K (some (.rows 23 [eRow (shutC own0 2 T t 4098 4 (.sl (some (4097 + atOf 4, 0)) (evOf 4) (evOf 4) false))] false)) (some (.rows 1 [[.p (some (4114, 0, 0))]] false)) (some (.loop { LS with st := .busy })) none 4128 (.tup []) := by kernel_rfl
theorem d24c (z : Blk) (x1 ob tb : Blk) (A : Nat → Int) (B : Nat → Bool) (T : Nat → Int) (now t : Int) (LS : LoopSt) (K : Kt) : runK prN 3000 (.fn 27) [.p (some (4114, 0, 0)), .i .i64 4] (dH (h0.push z) x1 ob tb 2 A B T now t 4 LS) (dK (h0.push z) K) = K (some (.rows 23 [eRow (shutC own0 2 T t 4098 4 (.sl (some (4097 + atOf 4, 0)) (evOf 4) (evOf 4) false))] false)) (some (.rows 1 [[.p (some (4114, 0, 0))]] false)) (some (.loop { LS with st := .busy })) (some z) 4128 (.tup []) := by kernel_rfl
theorem base_lt (b : H) (hb : Base b) (i : Nat) (x : Blk) (hx : b.get i = some x) : i < b.nx := by
  rcases hb with rfl | rfl | ⟨z, rfl⟩
  · cases hx
  · cases hx
  · rw [H.get_push] at hx
    by_cases h1 : i = h0.nx
    · subst h1; show 4096 < 4096 + 1; omega
    · rw [if_neg h1] at hx; cases hx
theorem of_run {base : H} {ys : List V} {g0 : H} {f : Nat} {a1 a2 a3 a4 : Option Blk} {n : Nat} (hk : ∀ K : Kt, runK prN 3000 (.fn f) ys g0 (dK base K) = K a1 a2 a3 a4 n (.tup [])) :
    Runs prN (.fn f) ys g0 (fun v g => v = .un ∧ g.get (base.nx + 17) = a1 ∧ g.get (base.nx + 19) = a2 ∧ g.get (base.nx + 22) = a3 ∧ g.get 4096 = a4 ∧ g.nx = n) := by
  open Classical in
  have h := hk (fun b1 b2 b3 b4 m v => decide (b1 = a1 ∧ b2 = a2 ∧ b3 = a3 ∧ b4 = a4 ∧ m = n ∧ v = .tup []))
  simp only [and_self, decide_true] at h
  obtain ⟨v, g, hv, hq⟩ := runK_true prN 3000 _ _ _ _ h
  unfold dK at hq
  have hq := of_decide_eq_true hq
  simp only [getK_eq] at hq
  exact ⟨3000, v, g, hv, hq.2.2.2.2.2, hq.1, hq.2.1, hq.2.2.1, hq.2.2.2.1, hq.2.2.2.2.1⟩
theorem dueAll (base : H) (x1 ob tb : Blk) (role : Int) (A : Nat → Int) (B : Nat → Bool) (T : Nat → Int) (now t : Int) (k : Nat) (LS : LoopSt) (hb : Base base) (hr : role = 1 ∨ role = 2) (hk : k = 1 ∨ k = 2 ∨ k = 4) :
    Runs prN (.fn 27) [.p (some (base.nx + 17, 0, 0)), .i .i64 (k : Nat)] (dueH (endH own0 cB base x1 ob tb role A B T now) (base.nx + 17) (base.nx + 16) (endC role own0 T now (base.nx + 1) true) A B t k LS)
        (fun v g => v = .un ∧ g.get (base.nx + 17) = some (.rows 23 [eRow (shutC own0 role T t (base.nx + 1) k (.sl (some (base.nx + atOf k, 0)) (evOf k) (evOf k) false))] false) ∧ g.get (base.nx + 19) = some (.rows 1 [[.p (some (base.nx + 17, 0, 0))]] false) ∧ g.get (base.nx + 22) = some (.loop { LS with st := .busy }) ∧ base.nx + 22 < g.nx ∧ ∀ i x, base.get i = some x → g.get i = some x) := by
  rcases hb with rfl | rfl | ⟨z, rfl⟩
  · rcases hr with rfl | rfl <;> rcases hk with rfl | rfl | rfl
    · refine Runs.mono (of_run (base := ⟨4096, .e⟩) fun K => d11a x1 ob tb A B T now t LS K) ?_
      rintro v g ⟨rfl, q1, q2, q3, q4, q5⟩
      exact ⟨rfl, q1, q2, q3, by rw [q5]; show 4096 + 22 < _; omega, fun i x hx => by cases hx⟩
    · refine Runs.mono (of_run (base := ⟨4096, .e⟩) fun K => d12a x1 ob tb A B T now t LS K) ?_
      rintro v g ⟨rfl, q1, q2, q3, q4, q5⟩
      exact ⟨rfl, q1, q2, q3, by rw [q5]; show 4096 + 22 < _; omega, fun i x hx => by cases hx⟩
    · refine Runs.mono (of_run (base := ⟨4096, .e⟩) fun K => d14a x1 ob tb A B T now t LS K) ?_
      rintro v g ⟨rfl, q1, q2, q3, q4, q5⟩
      exact ⟨rfl, q1, q2, q3, by rw [q5]; show 4096 + 22 < _; omega, fun i x hx => by cases hx⟩
    · refine Runs.mono (of_run (base := ⟨4096, .e⟩) fun K => d21a x1 ob tb A B T now t LS K) ?_
      rintro v g ⟨rfl, q1, q2, q3, q4, q5⟩
      exact ⟨rfl, q1, q2, q3, by rw [q5]; show 4096 + 22 < _; omega, fun i x hx => by cases hx⟩
    · refine Runs.mono (of_run (base := ⟨4096, .e⟩) fun K => d22a x1 ob tb A B T now t LS K) ?_
      rintro v g ⟨rfl, q1, q2, q3, q4, q5⟩
      exact ⟨rfl, q1, q2, q3, by rw [q5]; show 4096 + 22 < _; omega, fun i x hx => by cases hx⟩
    · refine Runs.mono (of_run (base := ⟨4096, .e⟩) fun K => d24a x1 ob tb A B T now t LS K) ?_
      rintro v g ⟨rfl, q1, q2, q3, q4, q5⟩
      exact ⟨rfl, q1, q2, q3, by rw [q5]; show 4096 + 22 < _; omega, fun i x hx => by cases hx⟩
  · rcases hr with rfl | rfl <;> rcases hk with rfl | rfl | rfl
    · refine Runs.mono (of_run (base := ⟨4097, .e⟩) fun K => d11b x1 ob tb A B T now t LS K) ?_
      rintro v g ⟨rfl, q1, q2, q3, q4, q5⟩
      exact ⟨rfl, q1, q2, q3, by rw [q5]; show 4097 + 22 < _; omega, fun i x hx => by cases hx⟩
    · refine Runs.mono (of_run (base := ⟨4097, .e⟩) fun K => d12b x1 ob tb A B T now t LS K) ?_
      rintro v g ⟨rfl, q1, q2, q3, q4, q5⟩
      exact ⟨rfl, q1, q2, q3, by rw [q5]; show 4097 + 22 < _; omega, fun i x hx => by cases hx⟩
    · refine Runs.mono (of_run (base := ⟨4097, .e⟩) fun K => d14b x1 ob tb A B T now t LS K) ?_
      rintro v g ⟨rfl, q1, q2, q3, q4, q5⟩
      exact ⟨rfl, q1, q2, q3, by rw [q5]; show 4097 + 22 < _; omega, fun i x hx => by cases hx⟩
    · refine Runs.mono (of_run (base := ⟨4097, .e⟩) fun K => d21b x1 ob tb A B T now t LS K) ?_
      rintro v g ⟨rfl, q1, q2, q3, q4, q5⟩
      exact ⟨rfl, q1, q2, q3, by rw [q5]; show 4097 + 22 < _; omega, fun i x hx => by cases hx⟩
    · refine Runs.mono (of_run (base := ⟨4097, .e⟩) fun K => d22b x1 ob tb A B T now t LS K) ?_
      rintro v g ⟨rfl, q1, q2, q3, q4, q5⟩
      exact ⟨rfl, q1, q2, q3, by rw [q5]; show 4097 + 22 < _; omega, fun i x hx => by cases hx⟩
    · refine Runs.mono (of_run (base := ⟨4097, .e⟩) fun K => d24b x1 ob tb A B T now t LS K) ?_
      rintro v g ⟨rfl, q1, q2, q3, q4, q5⟩
      exact ⟨rfl, q1, q2, q3, by rw [q5]; show 4097 + 22 < _; omega, fun i x hx => by cases hx⟩
  · rcases hr with rfl | rfl <;> rcases hk with rfl | rfl | rfl
    · refine Runs.mono (of_run (base := (h0.push z)) fun K => d11c z x1 ob tb A B T now t LS K) ?_
      rintro v g ⟨rfl, q1, q2, q3, q4, q5⟩
      refine ⟨rfl, q1, q2, q3, by rw [q5]; show 4096 + 1 + 22 < _; omega, fun i x hx => ?_⟩
      rw [H.get_push] at hx
      by_cases h1 : i = h0.nx
      · subst h1; rw [if_pos rfl] at hx; cases hx; exact q4
      · rw [if_neg h1] at hx; cases hx
    · refine Runs.mono (of_run (base := (h0.push z)) fun K => d12c z x1 ob tb A B T now t LS K) ?_
      rintro v g ⟨rfl, q1, q2, q3, q4, q5⟩
      refine ⟨rfl, q1, q2, q3, by rw [q5]; show 4096 + 1 + 22 < _; omega, fun i x hx => ?_⟩
      rw [H.get_push] at hx
      by_cases h1 : i = h0.nx
      · subst h1; rw [if_pos rfl] at hx; cases hx; exact q4
      · rw [if_neg h1] at hx; cases hx
    · refine Runs.mono (of_run (base := (h0.push z)) fun K => d14c z x1 ob tb A B T now t LS K) ?_
      rintro v g ⟨rfl, q1, q2, q3, q4, q5⟩
      refine ⟨rfl, q1, q2, q3, by rw [q5]; show 4096 + 1 + 22 < _; omega, fun i x hx => ?_⟩
      rw [H.get_push] at hx
      by_cases h1 : i = h0.nx
      · subst h1; rw [if_pos rfl] at hx; cases hx; exact q4
      · rw [if_neg h1] at hx; cases hx
    · refine Runs.mono (of_run (base := (h0.push z)) fun K => d21c z x1 ob tb A B T now t LS K) ?_
      rintro v g ⟨rfl, q1, q2, q3, q4, q5⟩
      refine ⟨rfl, q1, q2, q3, by rw [q5]; show 4096 + 1 + 22 < _; omega, fun i x hx => ?_⟩
      rw [H.get_push] at hx
      by_cases h1 : i = h0.nx
      · subst h1; rw [if_pos rfl] at hx; cases hx; exact q4
      · rw [if_neg h1] at hx; cases hx
    · refine Runs.mono (of_run (base := (h0.push z)) fun K => d22c z x1 ob tb A B T now t LS K) ?_
      rintro v g ⟨rfl, q1, q2, q3, q4, q5⟩
      refine ⟨rfl, q1, q2, q3, by rw [q5]; show 4096 + 1 + 22 < _; omega, fun i x hx => ?_⟩
      rw [H.get_push] at hx
      by_cases h1 : i = h0.nx
      · subst h1; rw [if_pos rfl] at hx; cases hx; exact q4
      · rw [if_neg h1] at hx; cases hx
    · refine Runs.mono (of_run (base := (h0.push z)) fun K => d24c z x1 ob tb A B T now t LS K) ?_
      rintro v g ⟨rfl, q1, q2, q3, q4, q5⟩
      refine ⟨rfl, q1, q2, q3, by rw [q5]; show 4096 + 1 + 22 < _; omega, fun i x hx => ?_⟩
      rw [H.get_push] at hx
      by_cases h1 : i = h0.nx
      · subst h1; rw [if_pos rfl] at hx; cases hx; exact q4
      · rw [if_neg h1] at hx; cases hx
noncomputable def prT : Prog := prN.add 9 (gRl (TickE own0 cB Base))
theorem okT : ProgOk Tryz.prog prT := by
  refine okN.addRl (af := Am.c_endpoint_End_Tick 26 27 28) (by kernel_rfl) (by kernel_rfl) ?_
  refine tick_runs (kD := 26) (kd := 27) (kf := 28) (k1 := 56) (kn := 57) (ks := 58) rfl (by kernel_rfl) rfl rfl rfl (by kernel_rfl) rfl rfl ?_ ?_ base_lt dueAll
  · intro i hi
    match i, hi with
    | 0, _ => exact ⟨_, _, rfl⟩
    | 1, _ => exact ⟨_, _, rfl⟩
    | 2, _ => exact ⟨_, _, rfl⟩
    | 3, _ => exact ⟨_, _, rfl⟩
    | 4, _ => exact ⟨_, _, rfl⟩
  · intro r n
    unfold cB
    split <;> rfl
end Go.Proofs.YtfabolagjlhdpaaGreat.EndK
