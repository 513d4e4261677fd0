/- What the functions of this seat answer: ConfQueue. -/
import Derived.Test.YtdnigcfofodjhaaConfSeat
import Derived.Test.YtdnigcfofodjhaaConfQ3
import Derived.ProofKit
namespace Go.Proofs.Ytdnigcfofodjhaa.ConfSeat2
open Am Go.Proofs.Ytdnigcfofodjhaa.ConfSeat
set_option maxRecDepth 100000
noncomputable def pr10 : Prog := pr9.add 25 gStart
theorem ok10 : ProgOk Try.prog pr10 := ok9.add (af := c_conf_Start) (by kernel_rfl) start_ok
noncomputable def pr11 : Prog := pr10.add 26 gStart
theorem ok11 : ProgOk Try.prog pr11 := ok10.add (af := c_isthmusref12_Start) (by kernel_rfl) start12_ok
noncomputable def pr12 : Prog := pr11.add 22 (gQ fun q => cfV q.f)
theorem ok12 : ProgOk Try.prog pr12 := ok11.add (af := c_conf_Queue_Force 25) (by kernel_rfl) force_ok
noncomputable def pr13 : Prog := pr12.add 23 (gQ fun q => cfV q.l)
theorem ok13 : ProgOk Try.prog pr13 := ok12.add (af := c_conf_Queue_Told 25) (by kernel_rfl) told_ok
noncomputable def pr14 : Prog := pr13.add 24 (gQ fun q => .i .i64 q.n)
theorem ok14 : ProgOk Try.prog pr14 := ok13.add (af := c_conf_Queue_Wait) (by kernel_rfl) wait_ok
abbrev opTy : Ty := .st [.i .i64, .st [.i .i64, .i .i64, .i .i64, .i .i64, .i .i64]]
theorem op_of {d : Dt} (h : Dt.has opTy d) : ∃ o : Int × Cf, ∀ g, d.lay g = (opRow o, g) := by
  obtain ⟨xs, rfl, ha⟩ := has_st h
  obtain ⟨x, xs1, rfl, h1, ha⟩ := hasL_cons ha
  obtain ⟨y, xs2, rfl, h2, ha⟩ := hasL_cons ha
  obtain rfl := hasL_nil ha
  obtain ⟨k, rfl, _⟩ := has_i h1
  obtain ⟨c0, c1, c2, c3, c4, rfl⟩ := has_conf h2
  exact ⟨(k, ⟨c0, c1, c2, c3, c4⟩), fun g => rfl⟩
theorem ops_of : ∀ {xs : List Dt}, Dt.hasA opTy xs → ∃ os : List (Int × Cf), os.length = xs.length ∧ ∀ h, Dt.layR xs h = (os.map opRow, h)
  | [], _ => ⟨[], rfl, fun h => by simp [Dt.layR]⟩
  | x :: xs, h => by
    simp only [Dt.hasA] at h
    obtain ⟨f, hf⟩ := op_of h.1
    obtain ⟨fs, hl, hfs⟩ := ops_of h.2
    refine ⟨f :: fs, by simp [hl], fun g => ?_⟩
    simp only [Dt.layR, hf, hfs]
    rfl
theorem opSl_of {x : Dt} (hx : Dt.has (.sl 6 opTy) x) (h : H) : ∃ os : List (Int × Cf), ∃ p cap ex, (x.arg h).1 = .sl p os.length cap ex ∧ rowsAt (x.arg h).2 6 p os.length (os.map opRow) := by
  rcases has_sl hx with rfl | ⟨xs, rfl, hl, ha⟩
  · exact ⟨[], none, 0, true, rfl, rfl, .inl rfl⟩
  · obtain ⟨os, hlen, hos⟩ := ops_of ha
    refine ⟨os, some (h.nx, 0), os.length, false, ?_, ?_⟩
    · simp only [Dt.arg, hos, hlen]
    · simp only [Dt.arg, Dt.lay, hos]
      refine ⟨by simp, ?_⟩
      cases xs with
      | nil => exact .inl (by simpa using hlen)
      | cons y ys => exact .inr ⟨h.nx, 0, os.map opRow, true, rfl, by show h.nx < h.nx + 1; omega, by simp [H.get_push], fun i row hi => by rw [Nat.zero_add]; exact hi⟩
theorem queueLaw (xs : List Dt) (h : Dt.hasL [.st [.i .i64, .i .i64, .i .i64, .i .i64, .i .i64], .sl 6 opTy] xs) :
    wpF pr14 (c_isthmuslaw12_ConfQueue 7 14 15 16 17 18 19 20 21 22 13 23 24) (Dt.args xs h0).1 (Dt.args xs h0).2 (fun v _ => v = .b true) := by
  obtain ⟨x, xs1, rfl, h1, ha⟩ := hasL_cons h
  obtain ⟨y, xs2, rfl, h2, hb⟩ := hasL_cons ha
  obtain rfl := hasL_nil hb
  obtain ⟨c0, c1, c2, c3, c4, rfl⟩ := has_conf h1
  obtain ⟨os, p, cap, ex, e1, e2⟩ := opSl_of h2 h0
  have e3 : ∀ g, (Dt.st [.i .i64 c0, .i .i64 c1, .i .i64 c2, .i .i64 c3, .i .i64 c4]).arg g = (cfV ⟨c0, c1, c2, c3, c4⟩, g) := fun g => rfl
  simp only [Dt.args, e3, e1]
  exact confQueue_law (km := 10) (km2 := 11) (ks := 25) (ks2 := 26) (by kernel_rfl) (by kernel_rfl) (by kernel_rfl) (by kernel_rfl) (by kernel_rfl) (by kernel_rfl) (by kernel_rfl) (by kernel_rfl) (by kernel_rfl) (by kernel_rfl) (by kernel_rfl) (by kernel_rfl) (by kernel_rfl) (by kernel_rfl) (by kernel_rfl) (by kernel_rfl) (by kernel_rfl) (by kernel_rfl) (by kernel_rfl) (by kernel_rfl) (by kernel_rfl) (by kernel_rfl) (by kernel_rfl) (by kernel_rfl) (by kernel_rfl) ⟨c0, c1, c2, c3, c4⟩ e2
end Go.Proofs.Ytdnigcfofodjhaa.ConfSeat2
