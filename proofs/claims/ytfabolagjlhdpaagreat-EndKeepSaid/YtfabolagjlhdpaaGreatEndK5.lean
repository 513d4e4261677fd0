/- The law EndKeep at its seat: what is taken, as a contract (its answer). -/
import Derived.Test.YtfabolagjlhdpaaGreatEndK4
namespace Go.Proofs.YtfabolagjlhdpaaGreat.EndK
open Am
set_option linter.all false
set_option maxRecDepth 100000
theorem looks_get {h g : H} {l : List (Option Blk)} (hq : looks h g = l) : ∀ i, i < 18 → l[i]? = some (g.get (h.nx + i)) := by
  intro i hi
  rw [← hq]
  unfold looks
  simp only [getK_eq]
  match i, hi with
  | 0, _ => rfl
  | 1, _ => rfl
  | 2, _ => rfl
  | 3, _ => rfl
  | 4, _ => rfl
  | 5, _ => rfl
  | 6, _ => rfl
  | 7, _ => rfl
  | 8, _ => rfl
  | 9, _ => rfl
  | 10, _ => rfl
  | 11, _ => rfl
  | 12, _ => rfl
  | 13, _ => rfl
  | 14, _ => rfl
  | 15, _ => rfl
  | 16, _ => rfl
  | 17, _ => rfl
  | i + 18, h => exact absurd h (by omega)
theorem sees_conn {ob tb : Blk} {bl : List Blk} {role : Int} {A : Nat → Int} {B : Nat → Bool} {c : Nat → V} {z : Option Blk} (hl : bl.length = 13) {j : Nat} (hj : j < 13) : (sees ob tb bl role A B c z)[2 + j]? = some (bl[j]?) := by
  unfold sees
  rw [show 2 + j = j + 1 + 1 from by omega, List.getElem?_cons_succ, List.getElem?_cons_succ, List.getElem?_append_left (by rw [List.length_map, hl]; exact hj), List.getElem?_map, List.getElem?_eq_getElem (by rw [hl]; exact hj)]; rfl
theorem sees_end {ob tb : Blk} {bl : List Blk} {role : Int} {A : Nat → Int} {B : Nat → Bool} {c : Nat → V} {z : Option Blk} (hl : bl.length = 13) : (sees ob tb bl role A B c z)[15]? = some (some (.rows 12 [tRow A B] false)) ∧ (sees ob tb bl role A B c z)[16]? = some (some (.rows 23 [eRow c] false)) ∧ (sees ob tb bl role A B c z)[17]? = some (some (.rows 2 [[.i .i64 role, .i .i64 0]] false)) := by
  unfold sees
  refine ⟨?_, ?_, ?_⟩
  · rw [List.getElem?_cons_succ, List.getElem?_cons_succ, List.getElem?_append_right (by rw [List.length_map, hl]; exact Nat.le_refl _), List.length_map, hl]; rfl
  · rw [List.getElem?_cons_succ, List.getElem?_cons_succ, List.getElem?_append_right (by rw [List.length_map, hl]; omega), List.length_map, hl]; rfl
  · rw [List.getElem?_cons_succ, List.getElem?_cons_succ, List.getElem?_append_right (by rw [List.length_map, hl]; omega), List.length_map, hl]; rfl
theorem relT (r : Int) (m i : Nat) (x : Blk) (hx : (cT r m)[i]? = some x) : x.rel (MkR m m 13) x := by
  unfold cT at hx
  split at hx
  · exact relcT1 m i x hx
  · exact relcT2 m i x hx
theorem relP (r : Int) (m i : Nat) (x : Blk) (hx : (cP r m)[i]? = some x) : x.rel (MkR m m 13) x := by
  unfold cP at hx
  split at hx
  · exact relcP1 m i x hx
  · exact relcP2 m i x hx
theorem own_ok : ∀ i, i < 5 → ∃ k n, own0 i = .i k n := by
  intro i hi
  match i, hi with
  | 0, _ => exact ⟨_, _, rfl⟩
  | 1, _ => exact ⟨_, _, rfl⟩
  | 2, _ => exact ⟨_, _, rfl⟩
  | 3, _ => exact ⟨_, _, rfl⟩
  | 4, _ => exact ⟨_, _, rfl⟩
/-- What is taken, and the heap behind it. -/
def TakeR : Rl := fun ys h v h' => ∃ base ob tb role A B T now, Base base ∧ (role = 1 ∨ role = 2) ∧ ys = [.p (some (base.nx + 16, 0, 0)), .i .i64 1048576] ∧ h = nH base ob tb role A B T now ∧ v = .sl (some (base.nx + 18, 0)) (qOf role) (qOf role) false ∧ h' = jH cT base ob tb role A B T now
theorem take_runs (ys : List V) (h : H) (v : V) (h' : H) (hR : TakeR ys h v h') : Runs prN (.fn 16) ys h (fun v1 h1 => Abs h v1 h1 v h') := by
  obtain ⟨base, ob, tb, role, A, B, T, now, hb, hr, rfl, rfl, rfl, rfl⟩ := hR
  refine Runs.mono (takeAll base ob tb role A B T now hb hr) ?_
  rintro v1 g ⟨⟨z, hq⟩, hk, rfl⟩
  have L := looks_get hq
  have hl := cT_len role (base.nx + 2)
  obtain ⟨s1, s2, s3⟩ := sees_end (ob := ob) (tb := tb) (role := role) (A := A) (B := B) (c := endC role own0 T now base.nx true) (z := z) hl
  refine upd_abs (j := 0) (j' := 1) (h := base) (cB := cB role) (cB' := cT role) (σ := fun _ => base.nx + 20) (base_lt base hb) (cB_len' role) (cT_len role) (by omega) ?_ ?_ hk ?_ ?_ ?_ ?_ (relT role _) ?_ ?_
  · exact (Option.some.inj (L 0 (by omega))).symm
  · exact (Option.some.inj (L 1 (by omega))).symm
  · intro i hi
    have := (sees_conn (ob := ob) (tb := tb) (role := role) (A := A) (B := B) (c := endC role own0 T now base.nx true) (z := z) hl hi).symm.trans (L (2 + i) (by omega))
    rw [show base.nx + 2 + i = base.nx + (2 + i) from by omega]
    exact (Option.some.inj this).symm
  · exact (Option.some.inj (s1.symm.trans (L 15 (by omega)))).symm
  · exact (Option.some.inj (s2.symm.trans (L 16 (by omega)))).symm
  · exact (Option.some.inj (s3.symm.trans (L 17 (by omega)))).symm
  · intro i hi
    exact endC_live (cB_len' role) own_ok hi
  · refine ⟨.inr ⟨?_, ?_, rfl⟩, rfl, rfl, rfl, rfl⟩
    · rw [UJ_nx (cB_len' role)]; omega
    · rw [UJ_nx (cT_len role)]; omega
end Go.Proofs.YtfabolagjlhdpaaGreat.EndK
