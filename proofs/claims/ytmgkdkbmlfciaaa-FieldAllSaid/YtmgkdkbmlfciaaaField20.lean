/- Ranging over the static table. -/
import Derived.Test.YtmgkdkbmlfciaaaField19
import Derived.Test.YtmgkdkbmlfciaaaAmRfn
namespace Am
set_option linter.unusedVariables false
set_option linter.unusedSimpArgs false
set_option maxRecDepth 20000
set_option maxHeartbeats 8000000
variable {pr : Prog}

/-- Behind a block, all is as it was. -/
def KeptBeh (L : Nat) (g g' : H) : Prop := g.nx ≤ g'.nx ∧ ∀ b, L < b → b < g.nx → g'.get b = g.get b
def AllLoop (L : Nat) (Inv : Nat → H → Prop) (T : List (List V)) (k : Nat) (t : Tm) (g : H) : Prop :=
  ∃ (j b : Nat), j + k = 61 ∧ t.v 6 = .i .i64 j ∧ t.v 5 = .i .i64 61 ∧ t.v 4 = .sl (some (b, 0)) 61 61 true ∧ t.v 0 = .f (.yl L) [] ∧ L < b ∧ b < g.nx ∧ g.get b = some (.rows 1 T false) ∧ Inv j g
theorem all1_runs {ks kc kA L : Nat} (hs : pr.ext ks = some (gTab tabS)) (hc : pr.ext kc = some gCut) (hA : pr.ext kA = none) (hfn : pr.fn kA = some (c_field_All_1 ks kc))
    {Inv : Nat → H → Prop} {Done : H → Prop} (hst : ∀ j g g', Inv j g → Kept g g' → Inv j g') {g0 : H} (hL : L < g0.nx) (hi : Inv 0 g0)
    (hy : ∀ (j : Nat) (f : Fd) (g : H), j < 61 → tabF[j]? = some f → Inv j g → Runs pr (.yl L) [.i .i64 ((j : Int) + 1), .agg f.row] g (fun v g' => KeptBeh L g g' ∧ ((v = .b true ∧ Inv (j + 1) g') ∨ (v = .b false ∧ Done g')))) :
    Runs pr (.fn kA) [.f (.yl L) []] g0 (fun _ g' => Inv 61 g' ∨ Done g') := by
  have xs := @wpCall_ext pr ks _ hs
  have xc := @wpCall_ext pr kc _ hc
  have es : ∀ g, gTab tabS [] g = some (.sl (some (g.nx, 0)) 61 61 true, g.push (.rows 1 (tabS.map sRow) false)) := fun g => rfl
  generalize hT : tabS.map sRow = T at es
  refine runs_of_wpF hA hfn ?_
  unfold wpF c_field_All_1
  refine ⟨by simp, ?_⟩
  simp only [↓STEP, go_sem, ↓reduceIte, Nat.reduceEqDiff, Nat.reduceLeDiff, Nat.reduceLT, Nat.reduceAdd, Nat.reduceSub, Nat.reduceMul, Int.reduceLT, Int.reduceLE, Int.reduceEq, Int.reduceAdd, Int.reduceSub, Int.reduceMul, Int.reduceNeg, Int.reduceToNat, reduceCtorEq, xs, es]
  refine wpA_loop_inv (AllLoop L Inv T) ?_ (m := 61) ?_
  · rintro k t g ⟨j, b, hk, e6, e5, e4, e0, hLb, hb, hgb, hinv⟩
    by_cases hj : (j : Int) < 61
    · have hj' : j < 61 := by omega
      have hr := stat_ref ⟨j, hj'⟩
      simp only at hr
      have h61 : tabS.length = 61 := rfl
      have hget : tabS[j]? = some tabS[j] := List.getElem?_eq_getElem (by omega)
      have hrow : T[j]? = some [.s tabS[j]] := by rw [← hT, List.getElem?_map, hget]; rfl
      have hlen : tabS[j].length < 1000000 := by
        have := hr.2
        rw [List.getElem!_eq_getElem?_getD, hget] at this
        exact this
      have hf : tabF[j]? = some (cutFd tabS[j]) := by rw [tabF, List.getElem?_map, hget]; rfl
      have hyj := hy j _ g hj' hf hinv
      generalize tabS[j] = s at hrow hlen hyj
      have hcut : ∀ g, gCut [.s s] g = some (.agg [.s (cutFd s).n, .s (cutFd s).v, .b (cutFd s).z], g) := fun g => if_pos hlen
      have hw1 : Go.IntKind.wrap .i64 ((j : Int) + 1) = (j : Int) + 1 := wrap_i64 (by omega) (by omega)
      simp only [↓STEP, go_sem, ↓reduceIte, Nat.reduceEqDiff, Nat.reduceLeDiff, Nat.reduceLT, Nat.reduceAdd, Nat.reduceSub, Nat.reduceMul, Int.reduceLT, Int.reduceLE, Int.reduceEq, Int.reduceAdd, Int.reduceSub, Int.reduceMul, Int.reduceNeg, Int.reduceToNat, reduceCtorEq, xc, e6, e5, e4, e0, hj, hgb, hrow, hcut, hw1]
      refine Runs.mono (c := .yl L) (as := [.i .i64 ((j : Int) + 1), .agg (cutFd s).row] ++ []) hyj ?_
      rintro v g' ⟨⟨hn, hkb⟩, ⟨rfl, hi'⟩ | ⟨rfl, hd⟩⟩
      · simp only [↓STEP, go_sem, ↓reduceIte, Nat.reduceEqDiff, Nat.reduceLeDiff, Nat.reduceLT, Nat.reduceAdd, Nat.reduceSub, Nat.reduceMul, Int.reduceLT, Int.reduceLE, Int.reduceEq, Int.reduceAdd, Int.reduceSub, Int.reduceMul, Int.reduceNeg, Int.reduceToNat, reduceCtorEq, hw1, e6]
        exact ⟨60 - j, by omega, j + 1, b, by omega, by simp [v_pd, v_pd0], by simp [v_pd, v_pd0, e5], by simp [v_pd, v_pd0, e4], by simp [v_pd, v_pd0, e0], hLb, by omega, by rw [hkb b hLb hb]; exact hgb, hi'⟩
      · simp only [↓STEP, go_sem, ↓reduceIte, Nat.reduceEqDiff, Nat.reduceLeDiff, Nat.reduceLT, Nat.reduceAdd, Nat.reduceSub, Nat.reduceMul, Int.reduceLT, Int.reduceLE, Int.reduceEq, Int.reduceAdd, Int.reduceSub, Int.reduceMul, Int.reduceNeg, Int.reduceToNat, reduceCtorEq, hw1]
        exact .inr hd
    · have : j = 61 := by omega
      subst this
      simp only [↓STEP, go_sem, ↓reduceIte, Nat.reduceEqDiff, Nat.reduceLeDiff, Nat.reduceLT, Nat.reduceAdd, Nat.reduceSub, Nat.reduceMul, Int.reduceLT, Int.reduceLE, Int.reduceEq, Int.reduceAdd, Int.reduceSub, Int.reduceMul, Int.reduceNeg, Int.reduceToNat, reduceCtorEq, e6, e5, e4, e0, hj]
      exact .inl hinv
  · refine ⟨0, g0.nx, rfl, ?_, ?_, ?_, ?_, hL, ?_, ?_, hst 0 _ _ hi (by (repeat (first | exact Kept.refl | apply Kept.push | refine Kept.kill ?_ (by omega) | refine Kept.set ?_ (by omega))))⟩
    all_goals (try simp only [↓STEP, go_sem, ↓reduceIte, Nat.reduceEqDiff, Nat.reduceLeDiff, Nat.reduceLT, Nat.reduceAdd, Nat.reduceSub, Nat.reduceMul, Int.reduceLT, Int.reduceLE, Int.reduceEq, Int.reduceAdd, Int.reduceSub, Int.reduceMul, Int.reduceNeg, Int.reduceToNat, reduceCtorEq]; try rfl)
    all_goals (first | omega | rfl)
end Am
