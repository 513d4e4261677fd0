/- timer and endpoint: what stops, what is due; a tick at which nothing is due. -/
import Derived.Test.YtkhnielggkcbiaaGreatDoorEnd1
import Derived.Test.YtkhnielggkcbiaaGreatDoorAmGcB
import Derived.Test.YtkhnielggkcbiaaGreatDoorAmRfn
namespace Am
set_option linter.all false
set_option maxRecDepth 20000
set_option maxHeartbeats 8000000
open Go (IntKind)
variable {pr : Prog}
/-- A value whose blocks are all there. -/
def Live (h : H) (v : V) : Prop := V.rel (fun a b => a = b ∧ a < h.nx ∧ (h.get a).isSome = true) v v
theorem rels_of {R : Nat → Nat → Prop} : ∀ {vs : List V}, (∀ v ∈ vs, V.rel R v v) → V.rels R vs vs
  | [], _ => trivial
  | v :: vs, h => ⟨h v (by simp), rels_of fun w hw => h w (by simp [hw])⟩
/-- One elder block is written; what was made is let go. -/
theorem Abs.set1 {h h1 : H} {v : V} {e k : Nat} {row : List V} {y : Blk} (hk : KeptBut e h h1) (he : h.get e = some y) (hlt : e < h.nx) (h1e : h1.get e = some (.rows k [row] false)) (hrow : ∀ v ∈ row, Live h v) (hv : Live h v) : Abs h v h1 v (h.set e (.rows k [row] false)) := by
  have hm : ∀ a b, (a = b ∧ a < h.nx ∧ (h.get a).isSome = true) → GcR h (h.set e (.rows k [row] false)) (fun i => i) a b := by
    rintro a b ⟨rfl, h1, h2⟩
    exact .inl ⟨h1, rfl, h2⟩
  refine Abs.gc (σ := fun i => i) (fun hlow => ⟨Nat.le_refl _, ?_, ?_, ?_⟩) (V.rel_mono hm hv)
  · intro i x hi hx
    rw [H.get_set] at hx
    by_cases h2 : i = e
    · subst h2
      rw [if_pos rfl] at hx; cases hx
      exact ⟨by rw [he]; rfl, .inr ⟨_, h1e, rfl, rfl, rels_of fun w hw => V.rel_mono hm (hrow w hw), trivial⟩⟩
    · rw [if_neg h2] at hx
      exact ⟨by rw [hx]; rfl, .inl ⟨hx, by rw [hk.2 i hi h2]; exact hx⟩⟩
  · intro i x hi hx
    rw [H.get_set] at hx
    by_cases h2 : i = e
    · omega
    · rw [if_neg h2] at hx
      exact absurd (hlow _ _ hx) (by omega)
  · intro i j x y hx hy hij
    have : ∀ i, gcN h (fun i => i) i = i := fun i => by unfold gcN; split <;> rfl
    rw [this, this] at hij; exact hij
/-- The row of an end. -/
def eRow (c : Nat → V) : List V := [c 0, c 1, c 2, c 3, c 4, c 5, c 6, c 7, c 8, c 9, c 10, c 11, c 12, c 13, c 14, c 15, c 16, c 17, c 18, c 19, c 20, c 21, c 22]
def upd (c : Nat → V) (k : Nat) (v : V) : Nat → V := fun i => if i = k then v else c i
theorem eRow_inj {c d : Nat → V} (h : eRow c = eRow d) : ∀ i, i < 23 → c i = d i := by
  intro i hi
  have h1 : (eRow c)[i]? = (eRow d)[i]? := by rw [h]
  match i, hi with
  | 0, _ => exact Option.some.inj h1
  | 1, _ => exact Option.some.inj h1
  | 2, _ => exact Option.some.inj h1
  | 3, _ => exact Option.some.inj h1
  | 4, _ => exact Option.some.inj h1
  | 5, _ => exact Option.some.inj h1
  | 6, _ => exact Option.some.inj h1
  | 7, _ => exact Option.some.inj h1
  | 8, _ => exact Option.some.inj h1
  | 9, _ => exact Option.some.inj h1
  | 10, _ => exact Option.some.inj h1
  | 11, _ => exact Option.some.inj h1
  | 12, _ => exact Option.some.inj h1
  | 13, _ => exact Option.some.inj h1
  | 14, _ => exact Option.some.inj h1
  | 15, _ => exact Option.some.inj h1
  | 16, _ => exact Option.some.inj h1
  | 17, _ => exact Option.some.inj h1
  | 18, _ => exact Option.some.inj h1
  | 19, _ => exact Option.some.inj h1
  | 20, _ => exact Option.some.inj h1
  | 21, _ => exact Option.some.inj h1
  | 22, _ => exact Option.some.inj h1
  | k + 23, hi => exact absurd hi (by omega)
theorem eRow_congr {c d : Nat → V} (h : ∀ i, i < 23 → c i = d i) : eRow c = eRow d := by
  unfold eRow
  rw [h 0 (by omega), h 1 (by omega), h 2 (by omega), h 3 (by omega), h 4 (by omega), h 5 (by omega), h 6 (by omega), h 7 (by omega), h 8 (by omega), h 9 (by omega), h 10 (by omega), h 11 (by omega), h 12 (by omega), h 13 (by omega), h 14 (by omega), h 15 (by omega), h 16 (by omega), h 17 (by omega), h 18 (by omega), h 19 (by omega), h 20 (by omega), h 21 (by omega), h 22 (by omega)]
def nilS : V := .sl none 0 0 true
/-- What was told is given. -/
def gFlush (ys : List V) (h : H) : Option (V × H) :=
  match ys with
  | [.p (some (e, 0, 0))] => (h.rd e 0 22 1).bind fun l => match l with
    | [v] => (h.wr e 0 22 [nilS]).map fun g => (v, g)
    | _ => none
  | _ => none
theorem flush_ok : OkFor pr c_endpoint_End_flush gFlush := by
  intro ys h v h' hg
  unfold gFlush at hg
  split at hg
  · rename_i e
    obtain ⟨l, hr, hg⟩ := Option.bind_eq_some_iff.1 hg
    split at hg
    · rename_i w
      obtain ⟨g, hw, hg⟩ := Option.map_eq_some_iff.1 hg
      cases hg
      unfold nilS at hw
      simp only [↓STEP, go_sem, ↓reduceIte, Nat.reduceEqDiff, Nat.reduceLeDiff, Nat.reduceLT, Nat.reduceAdd, Nat.reduceSub, Nat.reduceMul, Int.reduceLT, Int.reduceLE, Int.reduceEq, Int.reduceAdd, Int.reduceSub, Int.reduceMul, Int.reduceNeg, Int.reduceToNat, reduceCtorEq] at hw
      simp only [↓STEP, go_sem, ↓reduceIte, Nat.reduceEqDiff, Nat.reduceLeDiff, Nat.reduceLT, Nat.reduceAdd, Nat.reduceSub, Nat.reduceMul, Int.reduceLT, Int.reduceLE, Int.reduceEq, Int.reduceAdd, Int.reduceSub, Int.reduceMul, Int.reduceNeg, Int.reduceToNat, reduceCtorEq] at hr
      unfold wpF c_endpoint_End_flush
      refine ⟨by simp, ?_⟩
      simp only [↓STEP, go_sem, ↓reduceIte, Nat.reduceEqDiff, Nat.reduceLeDiff, Nat.reduceLT, Nat.reduceAdd, Nat.reduceSub, Nat.reduceMul, Int.reduceLT, Int.reduceLE, Int.reduceEq, Int.reduceAdd, Int.reduceSub, Int.reduceMul, Int.reduceNeg, Int.reduceToNat, reduceCtorEq, hr, hw]
      exact Abs.refl
    · cases hg
  · cases hg
theorem gFlush_at {h : H} {e : Nat} {c : Nat → V} (g : h.get e = some (.rows 23 [eRow c] false)) : gFlush [.p (some (e, 0, 0))] h = some (c 22, h.set e (.rows 23 [eRow (upd c 22 nilS)] false)) := by
  unfold gFlush H.rd H.wr H.row
  simp [g, eRow, upd, nilS, V.flat]
def gDue (k1 : Nat) (ys : List V) (h : H) : Option (V × H) :=
  match ys with
  | [.p s, .i k n] => some (.f (.fn k1) [.p (some (h.nx, 0, 0)), .p (some (h.nx + 1, 0, 0))], (h.push (.rows 1 [[.p s]] false)).push (.rows 1 [[.i k n]] false))
  | _ => none
theorem due_ok {k1 : Nat} : OkFor pr (c_timer_Set_Due k1) (gDue k1) := by
  intro ys h v h' hg
  unfold gDue at hg
  split at hg
  · cases hg
    unfold wpF c_timer_Set_Due
    refine ⟨by simp, ?_⟩
    simp only [↓STEP, go_sem, ↓reduceIte, Nat.reduceEqDiff, Nat.reduceLeDiff, Nat.reduceLT, Nat.reduceAdd, Nat.reduceSub, Nat.reduceMul, Int.reduceLT, Int.reduceLE, Int.reduceEq, Int.reduceAdd, Int.reduceSub, Int.reduceMul, Int.reduceNeg, Int.reduceToNat, reduceCtorEq]
    exact Abs.refl
  · cases hg
end Am
