/- What the document's layer 'field' finds in the static table. -/
import Derived.Test.YtmgkdkbmlfciaaaField18
namespace Am
set_option linter.unusedVariables false
set_option linter.unusedSimpArgs false
set_option maxRecDepth 20000
set_option maxHeartbeats 8000000
variable {pr : Prog}

def tabF : List Fd := tabS.map cutFd
/-- The first with a name and a value, the first with a name. -/
def fdF (nm vl : List UInt8) : Int → List Fd → Int × Int
  | _, [] => (0, 0)
  | j, f :: fs => if f.n = nm then (if f.v = vl then j else (fdF nm vl (j + 1) fs).1, j) else fdF nm vl (j + 1) fs
def gFind (as : List V) (h : H) : Option (V × H) :=
  match as with
  | [.s nm, .s vl] => some (.tup [.i .i64 (fdF nm vl 1 tabF).1, .i .i64 (fdF nm vl 1 tabF).2], h)
  | _ => none
def RfLoop (h : H) (nm vl : List UInt8) (T : List (List V)) (k : Nat) (t : Tm) (g : H) : Prop :=
  ∃ (i : Nat), i = k ∧ i ≤ 61 ∧ t.v 9 = .i .i64 i ∧ t.v 6 = .sl (some (h.nx, 0)) 122 122 true ∧ t.v 0 = .s nm ∧ t.v 1 = .s vl ∧ t.v 7 = .i .i64 (fdF nm vl (i + 1) (tabF.drop i)).1 ∧ t.v 8 = .i .i64 (fdF nm vl (i + 1) (tabF.drop i)).2 ∧
    g.get h.nx = some (.rows 1 T false) ∧ Kept h g
theorem rFind_ok {kt : Nat} (hs : pr.ext kt = some (gTab tabR)) : OkF pr (c_isthmusref3_Find kt) gFind := by
  intro as h v h' hg
  unfold gFind at hg
  split at hg
  · rename_i nm vl
    cases hg
    have xs := @wpCall_ext pr kt _ hs
    have es : ∀ g, gTab tabR [] g = some (.sl (some (g.nx, 0)) 122 122 true, g.push (.rows 1 (tabR.map sRow) false)) := fun g => rfl
    generalize hT : tabR.map sRow = T at es
    unfold wpF c_isthmusref3_Find
    refine ⟨by simp, ?_⟩
    simp only [↓STEP, go_sem, ↓reduceIte, Nat.reduceEqDiff, Nat.reduceLeDiff, Nat.reduceLT, Nat.reduceAdd, Nat.reduceSub, Nat.reduceMul, Int.reduceLT, Int.reduceLE, Int.reduceEq, Int.reduceAdd, Int.reduceSub, Int.reduceMul, Int.reduceNeg, Int.reduceToNat, reduceCtorEq, xs, es]
    refine wpA_loop_inv (RfLoop h nm vl T) ?_ (m := 61) ?_
    · rintro k t g ⟨i, hki, hi, e9, e6, e0, e1, e7, e8, hb, hk⟩
      subst hki
      by_cases h0 : (1 : Int) ≤ (i : Int)
      · obtain ⟨j, rfl⟩ : ∃ j, i = j + 1 := ⟨i - 1, by omega⟩
        have hj : j < 61 := by omega
        have hr := (stat_ref ⟨j, hj⟩).1
        simp only at hr
        have h122 : tabR.length = 122 := rfl
        have hd : tabF.drop j = ⟨tabR[2 * j]!, tabR[2 * j + 1]!, false⟩ :: tabF.drop (j + 1) := by
          have hl : j < tabF.length := hj
          rw [List.drop_eq_getElem_cons hl]
          congr 1
          have : tabF[j]? = some ⟨tabR[2 * j]!, tabR[2 * j + 1]!, false⟩ := by rw [← hr, tabF, List.getElem?_map]
          rw [List.getElem?_eq_getElem hl] at this
          exact Option.some.inj this
        have g1 : tabR[2 * j]? = some tabR[2 * j]! := by rw [List.getElem!_eq_getElem?_getD, List.getElem?_eq_getElem (by omega)]; rfl
        have g2 : tabR[2 * j + 1]? = some tabR[2 * j + 1]! := by rw [List.getElem!_eq_getElem?_getD, List.getElem?_eq_getElem (by omega)]; rfl
        have hw0 : Go.IntKind.wrap .i64 (2 * ((j + 1 : Nat) : Int)) = 2 * ((j + 1 : Nat) : Int) := wrap_i64 (by omega) (by omega)
        have hw1 : Go.IntKind.wrap .i64 (2 * ((j + 1 : Nat) : Int) - 2) = ((2 * j : Nat) : Int) := by rw [wrap_i64 (by omega) (by omega)]; omega
        have hw2 : Go.IntKind.wrap .i64 (2 * ((j + 1 : Nat) : Int) - 1) = ((2 * j + 1 : Nat) : Int) := by rw [wrap_i64 (by omega) (by omega)]; omega
        have hw3 : Go.IntKind.wrap .i64 (((j + 1 : Nat) : Int) - 1) = (j : Int) := by rw [wrap_i64 (by omega) (by omega)]; omega
        have hlt1 : ((2 * j : Nat) : Int) < 122 := by omega
        have hlt2 : ((2 * j + 1 : Nat) : Int) < 122 := by omega
        have r1 : T[2 * j]? = some [.s tabR[2 * j]!] := by rw [← hT, List.getElem?_map, g1]; rfl
        have r2 : T[2 * j + 1]? = some [.s tabR[2 * j + 1]!] := by rw [← hT, List.getElem?_map, g2]; rfl
        have hf := hd
        generalize tabR[2 * j]! = s1 at r1 hf
        generalize tabR[2 * j + 1]! = s2 at r2 hf
        have hF : fdF nm vl (j + 1) (tabF.drop j) = if s1 = nm then (if s2 = vl then (j : Int) + 1 else (fdF nm vl ((j : Int) + 1 + 1) (tabF.drop (j + 1))).1, (j : Int) + 1) else fdF nm vl ((j : Int) + 1 + 1) (tabF.drop (j + 1)) := by rw [hf, fdF]
        have hj1 : ((j + 1 : Nat) : Int) = (j : Int) + 1 := by omega
        rw [hj1] at e7 e8
        have h0' := eq_true h0
        by_cases c1 : s1 = nm
        · have c1' := eq_true c1
          rw [if_pos c1] at hF
          by_cases c2 : s2 = vl
          · have c2' := eq_true c2
            rw [if_pos c2] at hF
            simp only [↓STEP, go_sem, ↓reduceIte, Nat.reduceEqDiff, Nat.reduceLeDiff, Nat.reduceLT, Nat.reduceAdd, Nat.reduceSub, Nat.reduceMul, Int.reduceLT, Int.reduceLE, Int.reduceEq, Int.reduceAdd, Int.reduceSub, Int.reduceMul, Int.reduceNeg, Int.reduceToNat, reduceCtorEq, e9, e6, e0, e1, e7, e8, hb, h0', hw0, hw1, hw2, hw3, hlt1, hlt2, r1, r2, c1', c2']
            exact ⟨_, by omega, j, rfl, by omega, by simp [v_pd, v_pd0], by simp [v_pd, v_pd0, e6], by simp [v_pd, v_pd0, e0], by simp [v_pd, v_pd0, e1], by rw [hF]; simp [v_pd, v_pd0], by rw [hF]; simp [v_pd, v_pd0], hb, hk⟩
          · rw [if_neg c2] at hF
            simp only [↓STEP, go_sem, ↓reduceIte, Nat.reduceEqDiff, Nat.reduceLeDiff, Nat.reduceLT, Nat.reduceAdd, Nat.reduceSub, Nat.reduceMul, Int.reduceLT, Int.reduceLE, Int.reduceEq, Int.reduceAdd, Int.reduceSub, Int.reduceMul, Int.reduceNeg, Int.reduceToNat, reduceCtorEq, e9, e6, e0, e1, e7, e8, hb, h0', hw0, hw1, hw2, hw3, hlt1, hlt2, r1, r2, c1', c2]
            exact ⟨_, by omega, j, rfl, by omega, by simp [v_pd, v_pd0], by simp [v_pd, v_pd0, e6], by simp [v_pd, v_pd0, e0], by simp [v_pd, v_pd0, e1], by rw [hF]; simp [v_pd, v_pd0, e7], by rw [hF]; simp [v_pd, v_pd0], hb, hk⟩
        · rw [if_neg c1] at hF
          simp only [↓STEP, go_sem, ↓reduceIte, Nat.reduceEqDiff, Nat.reduceLeDiff, Nat.reduceLT, Nat.reduceAdd, Nat.reduceSub, Nat.reduceMul, Int.reduceLT, Int.reduceLE, Int.reduceEq, Int.reduceAdd, Int.reduceSub, Int.reduceMul, Int.reduceNeg, Int.reduceToNat, reduceCtorEq, e9, e6, e0, e1, e7, e8, hb, h0', hw0, hw1, hw2, hw3, hlt1, hlt2, r1, r2, c1]
          exact ⟨_, by omega, j, rfl, by omega, by simp [v_pd, v_pd0], by simp [v_pd, v_pd0, e6], by simp [v_pd, v_pd0, e0], by simp [v_pd, v_pd0, e1], by rw [hF]; simp [v_pd, v_pd0, e7], by rw [hF]; simp [v_pd, v_pd0, e8], hb, hk⟩
      · have : i = 0 := by omega
        subst this
        simp only [↓STEP, go_sem, ↓reduceIte, Nat.reduceEqDiff, Nat.reduceLeDiff, Nat.reduceLT, Nat.reduceAdd, Nat.reduceSub, Nat.reduceMul, Int.reduceLT, Int.reduceLE, Int.reduceEq, Int.reduceAdd, Int.reduceSub, Int.reduceMul, Int.reduceNeg, Int.reduceToNat, reduceCtorEq, e9, e6, e0, e1, e7, e8, hb, h0]
        exact Abs.out rfl rfl hk
    · refine ⟨61, rfl, Nat.le_refl _, ?_, ?_, ?_, ?_, ?_, ?_, ?_, ?_⟩
      all_goals (try simp only [↓STEP, go_sem, ↓reduceIte, Nat.reduceEqDiff, Nat.reduceLeDiff, Nat.reduceLT, Nat.reduceAdd, Nat.reduceSub, Nat.reduceMul, Int.reduceLT, Int.reduceLE, Int.reduceEq, Int.reduceAdd, Int.reduceSub, Int.reduceMul, Int.reduceNeg, Int.reduceToNat, reduceCtorEq]; try rfl)
      (repeat (first | exact Kept.refl | apply Kept.push | refine Kept.kill ?_ (by omega) | refine Kept.set ?_ (by omega)))
  · cases hg
end Am
