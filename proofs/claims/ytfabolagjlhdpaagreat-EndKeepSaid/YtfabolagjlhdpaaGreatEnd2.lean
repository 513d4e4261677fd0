/- timer and endpoint: what stops, what is due; a tick at which nothing is due. -/
import Derived.Test.YtfabolagjlhdpaaGreatEnd1
import Derived.Test.YtfabolagjlhdpaaGreatAmGcB
import Derived.Test.YtfabolagjlhdpaaGreatAmRfn
namespace Am
set_option linter.all false
set_option maxRecDepth 20000
set_option maxHeartbeats 8000000
open Go (IntKind)
variable {pr : Prog}
def gKind (ys : List V) (h : H) : Option (V × H) :=
  match ys with
  | [.i .i64 n] => some (.b (decide (1 ≤ n) && decide (n ≤ 5)), h)
  | _ => none
theorem kind_ok : OkFor pr c_timer_kind gKind := by
  intro ys h v h' hg
  unfold gKind at hg
  split at hg
  · rename_i n
    cases hg
    unfold wpF c_timer_kind
    refine ⟨by simp, ?_⟩
    by_cases h1 : 1 ≤ n <;> by_cases h2 : n ≤ 5 <;> simp only [↓STEP, go_sem, ↓reduceIte, Nat.reduceEqDiff, Nat.reduceLeDiff, Nat.reduceLT, Nat.reduceAdd, Nat.reduceSub, Nat.reduceMul, Int.reduceLT, Int.reduceLE, Int.reduceEq, Int.reduceAdd, Int.reduceSub, Int.reduceMul, Int.reduceNeg, Int.reduceToNat, reduceCtorEq, ge_iff_le, h1, h2] <;> exact Abs.eq (by simp [h1, h2]) rfl
  · cases hg
def timeOk (n : Int) : Bool := decide (0 ≤ n) && decide (n ≤ 1099511627776)
def gTime (ys : List V) (h : H) : Option (V × H) :=
  match ys with
  | [.i .i64 n] => some (.b (timeOk n), h)
  | _ => none
theorem time_ok : OkFor pr c_endpoint_time gTime := by
  intro ys h v h' hg
  unfold gTime at hg
  split at hg
  · rename_i n
    cases hg
    unfold wpF c_endpoint_time
    refine ⟨by simp, ?_⟩
    by_cases h1 : 0 ≤ n <;> by_cases h2 : n ≤ 1099511627776 <;> simp only [↓STEP, go_sem, ↓reduceIte, Nat.reduceEqDiff, Nat.reduceLeDiff, Nat.reduceLT, Nat.reduceAdd, Nat.reduceSub, Nat.reduceMul, Int.reduceLT, Int.reduceLE, Int.reduceEq, Int.reduceAdd, Int.reduceSub, Int.reduceMul, Int.reduceNeg, Int.reduceToNat, reduceCtorEq, ge_iff_le, h1, h2] <;> exact Abs.eq (by simp [timeOk, h1, h2]) rfl
  · cases hg
/-- A deadline is taken away. -/
def gStop (ys : List V) (h : H) : Option (V × H) :=
  match ys with
  | [.p (some (ts, 0, 0)), .i .i64 k] => if 1 ≤ k ∧ k ≤ 5 then (h.wr ts 0 (k.toNat * 2) [.i .i64 0, .b false]).map fun g => (.un, g) else none
  | _ => none
theorem stop_ok {kk : Nat} (xk : pr.ext kk = some gKind) : OkFor pr (c_timer_Set_Stop kk) gStop := by
  intro ys h v h' hg
  have x1 := @wpCall_ext pr kk _ xk
  unfold gStop at hg
  split at hg
  · rename_i ts k
    split at hg
    · rename_i hk
      obtain ⟨g, hw, hg⟩ := Option.map_eq_some_iff.1 hg
      cases hg
      have y1 : gKind [.i .i64 k] h = some (.b true, h) := by simp [gKind, hk.1, hk.2]
      have e1 : 0 ≤ k ∧ k < 6 := by omega
      unfold wpF c_timer_Set_Stop
      refine ⟨by simp, ?_⟩
      have hw2 := hw
      simp only [↓STEP, go_sem, ↓reduceIte, Nat.reduceEqDiff, Nat.reduceLeDiff, Nat.reduceLT, Nat.reduceAdd, Nat.reduceSub, Nat.reduceMul, Int.reduceLT, Int.reduceLE, Int.reduceEq, Int.reduceAdd, Int.reduceSub, Int.reduceMul, Int.reduceNeg, Int.reduceToNat, reduceCtorEq] at hw
      simp only [↓STEP, go_sem, ↓reduceIte, Nat.reduceEqDiff, Nat.reduceLeDiff, Nat.reduceLT, Nat.reduceAdd, Nat.reduceSub, Nat.reduceMul, Int.reduceLT, Int.reduceLE, Int.reduceEq, Int.reduceAdd, Int.reduceSub, Int.reduceMul, Int.reduceNeg, Int.reduceToNat, reduceCtorEq, x1, y1, e1.1, e1.2, hw]
      exact Abs.refl
    · cases hg
  · cases hg
/-- A value whose blocks are all there. -/
def Live (h : H) (v : V) : Prop := V.rel (fun a b => a = b ∧ a < h.nx ∧ (h.get a).isSome = true) v v
theorem rels_of {R : Nat → Nat → Prop} : ∀ {vs : List V}, (∀ v ∈ vs, V.rel R v v) → V.rels R vs vs
  | [], _ => trivial
  | v :: vs, h => ⟨h v (by simp), rels_of fun w hw => h w (by simp [hw])⟩
/-- The row of an end. -/
def eRow (c : Nat → V) : List V := [c 0, c 1, c 2, c 3, c 4, c 5, c 6, c 7, c 8, c 9, c 10, c 11, c 12, c 13, c 14, c 15, c 16, c 17, c 18, c 19, c 20, c 21, c 22]
def upd (c : Nat → V) (k : Nat) (v : V) : Nat → V := fun i => if i = k then v else c i
theorem eRow_inj {c d : Nat → V} (h : eRow c = eRow d) : ∀ i, i < 23 → c i = d i := by
  intro i hi
  have h1 : (eRow c)[i]? = (eRow d)[i]? := by rw [h]
  match i, hi with
  | 0, _ => exact Option.some.inj h1
  | 1, _ => exact Option.some.inj h1
  | 2, _ => exact Option.some.inj h1
  | 3, _ => exact Option.some.inj h1
  | 4, _ => exact Option.some.inj h1
  | 5, _ => exact Option.some.inj h1
  | 6, _ => exact Option.some.inj h1
  | 7, _ => exact Option.some.inj h1
  | 8, _ => exact Option.some.inj h1
  | 9, _ => exact Option.some.inj h1
  | 10, _ => exact Option.some.inj h1
  | 11, _ => exact Option.some.inj h1
  | 12, _ => exact Option.some.inj h1
  | 13, _ => exact Option.some.inj h1
  | 14, _ => exact Option.some.inj h1
  | 15, _ => exact Option.some.inj h1
  | 16, _ => exact Option.some.inj h1
  | 17, _ => exact Option.some.inj h1
  | 18, _ => exact Option.some.inj h1
  | 19, _ => exact Option.some.inj h1
  | 20, _ => exact Option.some.inj h1
  | 21, _ => exact Option.some.inj h1
  | 22, _ => exact Option.some.inj h1
  | k + 23, hi => exact absurd hi (by omega)
theorem eRow_congr {c d : Nat → V} (h : ∀ i, i < 23 → c i = d i) : eRow c = eRow d := by
  unfold eRow
  rw [h 0 (by omega), h 1 (by omega), h 2 (by omega), h 3 (by omega), h 4 (by omega), h 5 (by omega), h 6 (by omega), h 7 (by omega), h 8 (by omega), h 9 (by omega), h 10 (by omega), h 11 (by omega), h 12 (by omega), h 13 (by omega), h 14 (by omega), h 15 (by omega), h 16 (by omega), h 17 (by omega), h 18 (by omega), h 19 (by omega), h 20 (by omega), h 21 (by omega), h 22 (by omega)]
def nilS : V := .sl none 0 0 true
/-- What was told is given. -/
def gFlush (ys : List V) (h : H) : Option (V × H) :=
  match ys with
  | [.p (some (e, 0, 0))] => (h.rd e 0 22 1).bind fun l => match l with
    | [v] => (h.wr e 0 22 [nilS]).map fun g => (v, g)
    | _ => none
  | _ => none
theorem flush_ok : OkFor pr c_endpoint_End_flush gFlush := by
  intro ys h v h' hg
  unfold gFlush at hg
  split at hg
  · rename_i e
    obtain ⟨l, hr, hg⟩ := Option.bind_eq_some_iff.1 hg
    split at hg
    · rename_i w
      obtain ⟨g, hw, hg⟩ := Option.map_eq_some_iff.1 hg
      cases hg
      unfold nilS at hw
      simp only [↓STEP, go_sem, ↓reduceIte, Nat.reduceEqDiff, Nat.reduceLeDiff, Nat.reduceLT, Nat.reduceAdd, Nat.reduceSub, Nat.reduceMul, Int.reduceLT, Int.reduceLE, Int.reduceEq, Int.reduceAdd, Int.reduceSub, Int.reduceMul, Int.reduceNeg, Int.reduceToNat, reduceCtorEq] at hw
      simp only [↓STEP, go_sem, ↓reduceIte, Nat.reduceEqDiff, Nat.reduceLeDiff, Nat.reduceLT, Nat.reduceAdd, Nat.reduceSub, Nat.reduceMul, Int.reduceLT, Int.reduceLE, Int.reduceEq, Int.reduceAdd, Int.reduceSub, Int.reduceMul, Int.reduceNeg, Int.reduceToNat, reduceCtorEq] at hr
      unfold wpF c_endpoint_End_flush
      refine ⟨by simp, ?_⟩
      simp only [↓STEP, go_sem, ↓reduceIte, Nat.reduceEqDiff, Nat.reduceLeDiff, Nat.reduceLT, Nat.reduceAdd, Nat.reduceSub, Nat.reduceMul, Int.reduceLT, Int.reduceLE, Int.reduceEq, Int.reduceAdd, Int.reduceSub, Int.reduceMul, Int.reduceNeg, Int.reduceToNat, reduceCtorEq, hr, hw]
      exact Abs.refl
    · cases hg
  · cases hg
theorem gFlush_at {h : H} {e : Nat} {c : Nat → V} (g : h.get e = some (.rows 23 [eRow c] false)) : gFlush [.p (some (e, 0, 0))] h = some (c 22, h.set e (.rows 23 [eRow (upd c 22 nilS)] false)) := by
  unfold gFlush H.rd H.wr H.row
  simp [g, eRow, upd, nilS, V.flat]
def gDue (k1 : Nat) (ys : List V) (h : H) : Option (V × H) :=
  match ys with
  | [.p s, .i k n] => some (.f (.fn k1) [.p (some (h.nx, 0, 0)), .p (some (h.nx + 1, 0, 0))], (h.push (.rows 1 [[.p s]] false)).push (.rows 1 [[.i k n]] false))
  | _ => none
theorem due_ok {k1 : Nat} : OkFor pr (c_timer_Set_Due k1) (gDue k1) := by
  intro ys h v h' hg
  unfold gDue at hg
  split at hg
  · cases hg
    unfold wpF c_timer_Set_Due
    refine ⟨by simp, ?_⟩
    simp only [↓STEP, go_sem, ↓reduceIte, Nat.reduceEqDiff, Nat.reduceLeDiff, Nat.reduceLT, Nat.reduceAdd, Nat.reduceSub, Nat.reduceMul, Int.reduceLT, Int.reduceLE, Int.reduceEq, Int.reduceAdd, Int.reduceSub, Int.reduceMul, Int.reduceNeg, Int.reduceToNat, reduceCtorEq]
    exact Abs.refl
  · cases hg
end Am
