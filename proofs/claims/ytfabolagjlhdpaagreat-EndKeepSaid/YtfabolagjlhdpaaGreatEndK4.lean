/- The law EndKeep at its seat: what is taken, as a contract. -/
import Derived.Test.YtfabolagjlhdpaaGreatEndK3
namespace Go.Proofs.YtfabolagjlhdpaaGreat.EndK
open Am
set_option linter.all false
set_option maxRecDepth 100000
def qOf (role : Int) : Nat := if role = 1 then 69 else 39
theorem of_look {h : H} {ys : List V} {g0 : H} {f : Nat} {l : List (Option Blk)} {n : Nat} {w : V} (hk : ∀ K : Kl, runK prN 3000 (.fn f) ys g0 (fun v g => K (looks h g) g.nx v) = K l n w) :
    Runs prN (.fn f) ys g0 (fun v g => looks h g = l ∧ g.nx = n ∧ v = w) := by
  open Classical in
  have h := hk (fun l' m v => decide (l' = l ∧ m = n ∧ v = w))
  simp only [and_self, decide_true] at h
  obtain ⟨v, g, hv, hq⟩ := runK_true prN 3000 _ _ _ _ h
  exact ⟨3000, v, g, hv, of_decide_eq_true hq⟩
theorem sees_z {ob tb : Blk} {bl : List Blk} {role : Int} {A : Nat → Int} {B : Nat → Bool} {c : Nat → V} {z : Option Blk} (hl : bl.length = 13) : (sees ob tb bl role A B c z)[18]? = some z := by
  unfold sees
  rw [List.getElem?_cons_succ, List.getElem?_cons_succ, List.getElem?_append_right (by rw [List.length_map, hl]; omega), List.length_map, hl]; rfl
theorem looks_z {h g : H} {l : List (Option Blk)} (hl : looks h g = l) : l[18]? = some (g.get 4096) := by
  rw [← hl]; show some (getK g.tr 4096) = _; rw [getK_eq]; rfl
/-- What the heap ahead of an end holds is kept. -/
theorem keeps_of {g : H} {z : Blk} (hz : g.get 4096 = some z) : ∀ i x, (h0.push z).get i = some x → g.get i = some x := by
  intro i x hx
  rw [H.get_push] at hx
  by_cases h1 : i = h0.nx
  · subst h1; rw [if_pos rfl] at hx; cases hx; exact hz
  · rw [if_neg h1] at hx; cases hx
theorem cT_len (r : Int) (n : Nat) : (cT r n).length = 13 := by unfold cT; split <;> rfl
theorem cP_len (r : Int) (n : Nat) : (cP r n).length = 13 := by unfold cP; split <;> rfl
theorem cB_len' (r : Int) (n : Nat) : (cB r n).length = 13 := by unfold cB; split <;> rfl
theorem takeAll (h : H) (ob tb : Blk) (role : Int) (A : Nat → Int) (B : Nat → Bool) (T : Nat → Int) (now : Int) (hb : Base h) (hr : role = 1 ∨ role = 2) :
    Runs prN (.fn 16) [.p (some (h.nx + 16, 0, 0)), .i .i64 1048576] (nH h ob tb role A B T now)
      (fun v g => (∃ z, looks h g = sees ob tb (cT role (h.nx + 2)) role A B (endC role own0 T now h.nx true) z) ∧ (∀ i x, h.get i = some x → g.get i = some x) ∧ v = .sl (some (h.nx + 20, 0)) (qOf role) (qOf role) false) := by
  rcases hb with rfl | rfl | ⟨z, rfl⟩
  · rcases hr with rfl | rfl
    · refine Runs.mono (of_look (h := ⟨4096, .e⟩) fun K => take1a ob tb A B T now K) ?_
      rintro v g ⟨q1, q2, rfl⟩
      exact ⟨⟨_, q1⟩, fun i x hx => absurd hx (by intro h; cases h), rfl⟩
    · refine Runs.mono (of_look (h := ⟨4096, .e⟩) fun K => take2a ob tb A B T now K) ?_
      rintro v g ⟨q1, q2, rfl⟩
      exact ⟨⟨_, q1⟩, fun i x hx => absurd hx (by intro h; cases h), rfl⟩
  · rcases hr with rfl | rfl
    · refine Runs.mono (of_look (h := ⟨4097, .e⟩) fun K => take1b ob tb A B T now K) ?_
      rintro v g ⟨q1, q2, rfl⟩
      exact ⟨⟨_, q1⟩, fun i x hx => absurd hx (by intro h; cases h), rfl⟩
    · refine Runs.mono (of_look (h := ⟨4097, .e⟩) fun K => take2b ob tb A B T now K) ?_
      rintro v g ⟨q1, q2, rfl⟩
      exact ⟨⟨_, q1⟩, fun i x hx => absurd hx (by intro h; cases h), rfl⟩
  · rcases hr with rfl | rfl
    · refine Runs.mono (of_look (h := h0.push z) fun K => take1c z ob tb A B T now K) ?_
      rintro v g ⟨q1, q2, rfl⟩
      exact ⟨⟨_, q1⟩, keeps_of (Option.some.inj ((looks_z q1).symm.trans (sees_z (cT_len 1 _)))), rfl⟩
    · refine Runs.mono (of_look (h := h0.push z) fun K => take2c z ob tb A B T now K) ?_
      rintro v g ⟨q1, q2, rfl⟩
      exact ⟨⟨_, q1⟩, keeps_of (Option.some.inj ((looks_z q1).symm.trans (sees_z (cT_len 2 _)))), rfl⟩
end Go.Proofs.YtfabolagjlhdpaaGreat.EndK
