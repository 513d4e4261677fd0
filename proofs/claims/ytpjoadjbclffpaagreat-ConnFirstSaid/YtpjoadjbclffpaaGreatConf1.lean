/- What the functions of the layer 'conf' answer: the plain ones. -/
import Derived.Test.YtpjoadjbclffpaaGreatAmAll3
import Derived.Test.YtpjoadjbclffpaaGreatAmAll2
import Derived.Test.YtpjoadjbclffpaaGreatCodesConf
namespace Am
set_option linter.unusedVariables false
set_option linter.unusedSimpArgs false
set_option maxRecDepth 10000
variable {pr : Prog}

def within (a b c : Int) : Bool := decide (b ≤ a) && decide (a ≤ c)
def gWithin (as : List V) (h : H) : Option (V × H) :=
  match as with
  | [.i .i64 a, .i .i64 b, .i .i64 c] => some (.b (within a b c), h)
  | _ => none
theorem gWithin_eq (a b c : Int) (h : H) : gWithin [.i .i64 a, .i .i64 b, .i .i64 c] h = some (.b (within a b c), h) := rfl
/-- What is asked of a rule that stands for a function. -/
def OkFor (pr : Prog) (af : AFunc) (g : List V → H → Option (V × H)) : Prop := ∀ args h v h', g args h = some (v, h') → wpF pr af args h (fun v1 h1 => Abs h v1 h1 v h')

theorem within_ok : OkFor pr c_conf_within gWithin := by
  intro as h v h' hg
  unfold gWithin at hg
  split at hg
  · rename_i a b c
    cases hg
    unfold wpF c_conf_within
    refine ⟨by simp, ?_⟩
    by_cases h1 : b ≤ a
    · simp only [↓STEP, go_sem, ↓reduceIte, Nat.reduceEqDiff, Nat.reduceLeDiff, Nat.reduceLT, Nat.reduceAdd, Nat.reduceSub, Nat.reduceMul, Int.reduceLT, Int.reduceLE, Int.reduceEq, Int.reduceAdd, Int.reduceSub, Int.reduceMul, Int.reduceNeg, Int.reduceToNat, reduceCtorEq, h1]
      exact Abs.eq (by simp [within, h1]) rfl
    · simp only [↓STEP, go_sem, ↓reduceIte, Nat.reduceEqDiff, Nat.reduceLeDiff, Nat.reduceLT, Nat.reduceAdd, Nat.reduceSub, Nat.reduceMul, Int.reduceLT, Int.reduceLE, Int.reduceEq, Int.reduceAdd, Int.reduceSub, Int.reduceMul, Int.reduceNeg, Int.reduceToNat, reduceCtorEq, h1]
      exact Abs.eq (by simp [within, h1]) rfl
  · cases hg
theorem within12_ok : OkFor pr c_isthmusref12_within gWithin := within_ok

def okMay (c0 c1 c2 c3 c4 : Int) : Bool := within c0 0 65536 && within c1 0 2147483647 && within c2 0 2147483647 && within c3 16384 16777215 && within c4 0 2147483647
def gMay (as : List V) (h : H) : Option (V × H) :=
  match as with
  | [.agg [.i .i64 c0, .i .i64 c1, .i .i64 c2, .i .i64 c3, .i .i64 c4]] => some (.i .i64 (if okMay c0 c1 c2 c3 c4 then 0 else 1), h)
  | _ => none
theorem gMay_eq (c0 c1 c2 c3 c4 : Int) (h : H) : gMay [.agg [.i .i64 c0, .i .i64 c1, .i .i64 c2, .i .i64 c3, .i .i64 c4]] h = some (.i .i64 (if okMay c0 c1 c2 c3 c4 then 0 else 1), h) := rfl
theorem may_ok {k : Nat} (hw : pr.ext k = some gWithin) : OkFor pr (c_conf_May k) gMay := by
  intro as h v h' hg
  unfold gMay at hg
  split at hg
  · rename_i c0 c1 c2 c3 c4
    cases hg
    have hc := @wpCall_ext pr k gWithin hw
    unfold wpF c_conf_May
    refine ⟨by simp, ?_⟩
    cases h0 : within c0 0 65536
    · simp only [↓STEP, go_sem, ↓reduceIte, Nat.reduceEqDiff, Nat.reduceLeDiff, Nat.reduceLT, Nat.reduceAdd, Nat.reduceSub, Nat.reduceMul, Int.reduceLT, Int.reduceLE, Int.reduceEq, Int.reduceAdd, Int.reduceSub, Int.reduceMul, Int.reduceNeg, Int.reduceToNat, reduceCtorEq, hc, gWithin_eq, h0]
      exact Abs.out (by simp [okMay, h0]) rfl (by (repeat (first | exact Kept.refl | apply Kept.push | refine Kept.kill ?_ (by omega) | refine Kept.set ?_ (by omega))))
    cases h1 : within c1 0 2147483647
    · simp only [↓STEP, go_sem, ↓reduceIte, Nat.reduceEqDiff, Nat.reduceLeDiff, Nat.reduceLT, Nat.reduceAdd, Nat.reduceSub, Nat.reduceMul, Int.reduceLT, Int.reduceLE, Int.reduceEq, Int.reduceAdd, Int.reduceSub, Int.reduceMul, Int.reduceNeg, Int.reduceToNat, reduceCtorEq, hc, gWithin_eq, h0, h1]
      exact Abs.out (by simp [okMay, h0, h1]) rfl (by (repeat (first | exact Kept.refl | apply Kept.push | refine Kept.kill ?_ (by omega) | refine Kept.set ?_ (by omega))))
    cases h2 : within c2 0 2147483647
    · simp only [↓STEP, go_sem, ↓reduceIte, Nat.reduceEqDiff, Nat.reduceLeDiff, Nat.reduceLT, Nat.reduceAdd, Nat.reduceSub, Nat.reduceMul, Int.reduceLT, Int.reduceLE, Int.reduceEq, Int.reduceAdd, Int.reduceSub, Int.reduceMul, Int.reduceNeg, Int.reduceToNat, reduceCtorEq, hc, gWithin_eq, h0, h1, h2]
      exact Abs.out (by simp [okMay, h0, h1, h2]) rfl (by (repeat (first | exact Kept.refl | apply Kept.push | refine Kept.kill ?_ (by omega) | refine Kept.set ?_ (by omega))))
    cases h3 : within c3 16384 16777215
    · simp only [↓STEP, go_sem, ↓reduceIte, Nat.reduceEqDiff, Nat.reduceLeDiff, Nat.reduceLT, Nat.reduceAdd, Nat.reduceSub, Nat.reduceMul, Int.reduceLT, Int.reduceLE, Int.reduceEq, Int.reduceAdd, Int.reduceSub, Int.reduceMul, Int.reduceNeg, Int.reduceToNat, reduceCtorEq, hc, gWithin_eq, h0, h1, h2, h3]
      exact Abs.out (by simp [okMay, h0, h1, h2, h3]) rfl (by (repeat (first | exact Kept.refl | apply Kept.push | refine Kept.kill ?_ (by omega) | refine Kept.set ?_ (by omega))))
    cases h4 : within c4 0 2147483647
    · simp only [↓STEP, go_sem, ↓reduceIte, Nat.reduceEqDiff, Nat.reduceLeDiff, Nat.reduceLT, Nat.reduceAdd, Nat.reduceSub, Nat.reduceMul, Int.reduceLT, Int.reduceLE, Int.reduceEq, Int.reduceAdd, Int.reduceSub, Int.reduceMul, Int.reduceNeg, Int.reduceToNat, reduceCtorEq, hc, gWithin_eq, h0, h1, h2, h3, h4]
      exact Abs.out (by simp [okMay, h0, h1, h2, h3, h4]) rfl (by (repeat (first | exact Kept.refl | apply Kept.push | refine Kept.kill ?_ (by omega) | refine Kept.set ?_ (by omega))))
    · simp only [↓STEP, go_sem, ↓reduceIte, Nat.reduceEqDiff, Nat.reduceLeDiff, Nat.reduceLT, Nat.reduceAdd, Nat.reduceSub, Nat.reduceMul, Int.reduceLT, Int.reduceLE, Int.reduceEq, Int.reduceAdd, Int.reduceSub, Int.reduceMul, Int.reduceNeg, Int.reduceToNat, reduceCtorEq, hc, gWithin_eq, h0, h1, h2, h3, h4]
      exact Abs.out (by simp [okMay, h0, h1, h2, h3, h4]) rfl (by (repeat (first | exact Kept.refl | apply Kept.push | refine Kept.kill ?_ (by omega) | refine Kept.set ?_ (by omega))))
  · cases hg
theorem may12_ok {k : Nat} (hw : pr.ext k = some gWithin) : OkFor pr (c_isthmusref12_May k) gMay := may_ok hw

def setRow (i : Int) (v : Int) : List V := [.i .i64 i, .i .i64 v]
def confRows (role c0 c1 c2 c3 c4 : Int) : List (List V) := if role = 1 then [[.i .i64 1, .i .i64 c0], [.i .i64 2, .i .i64 0], [.i .i64 3, .i .i64 c1], [.i .i64 4, .i .i64 c2], [.i .i64 5, .i .i64 c3], [.i .i64 6, .i .i64 c4]]
  else [[.i .i64 1, .i .i64 c0], [.i .i64 3, .i .i64 c1], [.i .i64 4, .i .i64 c2], [.i .i64 5, .i .i64 c3], [.i .i64 6, .i .i64 c4]]
def gList (as : List V) (h : H) : Option (V × H) :=
  match as with
  | [.i .i64 role, .agg [.i .i64 c0, .i .i64 c1, .i .i64 c2, .i .i64 c3, .i .i64 c4]] =>
    if (role = 1 ∨ role = 2) ∧ okMay c0 c1 c2 c3 c4 = true then some (.tup [.sl (some (h.nx, 0)) (confRows role c0 c1 c2 c3 c4).length (confRows role c0 c1 c2 c3 c4).length false, .i .i64 0], h.push (.rows 2 (confRows role c0 c1 c2 c3 c4) false))
    else some (.tup [.sl none 0 0 true, .i .i64 1], h)
  | _ => none
theorem list_ok {k : Nat} (hw : pr.ext k = some gMay) : OkFor pr (c_conf_List k) gList := by
  intro as h v h' hg
  unfold gList at hg
  split at hg
  · rename_i role c0 c1 c2 c3 c4
    have hc := @wpCall_ext pr k gMay hw
    unfold wpF c_conf_List
    refine ⟨by simp, ?_⟩
    by_cases hm : okMay c0 c1 c2 c3 c4 = true
    · by_cases r1 : role = 1
      · subst r1
        rw [if_pos ⟨.inl rfl, hm⟩] at hg; cases hg
        simp only [↓STEP, go_sem, ↓reduceIte, Nat.reduceEqDiff, Nat.reduceLeDiff, Nat.reduceLT, Nat.reduceAdd, Nat.reduceSub, Nat.reduceMul, Int.reduceLT, Int.reduceLE, Int.reduceEq, Int.reduceAdd, Int.reduceSub, Int.reduceMul, Int.reduceNeg, Int.reduceToNat, reduceCtorEq, hc, gMay_eq, hm]
        refine Abs.slice2 (x := .rows 2 (confRows 1 c0 c1 c2 c3 c4) false) ?_ ?_ ?_ rfl rfl rfl
        · (repeat (first | exact Kept.refl | apply Kept.push | refine Kept.kill ?_ (by omega) | refine Kept.set ?_ (by omega)))
        · simp [H.get_push, nx_push, nx_kill, confRows]
        · simp
      · by_cases r2 : role = 2
        · subst r2
          rw [if_pos ⟨.inr rfl, hm⟩] at hg; cases hg
          simp only [↓STEP, go_sem, ↓reduceIte, Nat.reduceEqDiff, Nat.reduceLeDiff, Nat.reduceLT, Nat.reduceAdd, Nat.reduceSub, Nat.reduceMul, Int.reduceLT, Int.reduceLE, Int.reduceEq, Int.reduceAdd, Int.reduceSub, Int.reduceMul, Int.reduceNeg, Int.reduceToNat, reduceCtorEq, hc, gMay_eq, hm]
          refine Abs.slice2 (x := .rows 2 (confRows 2 c0 c1 c2 c3 c4) false) ?_ ?_ ?_ rfl rfl rfl
          · (repeat (first | exact Kept.refl | apply Kept.push | refine Kept.kill ?_ (by omega) | refine Kept.set ?_ (by omega)))
          · simp [H.get_push, nx_push, nx_kill, confRows]
          · simp
        · rw [if_neg (by simp [r1, r2])] at hg; cases hg
          simp only [↓STEP, go_sem, ↓reduceIte, Nat.reduceEqDiff, Nat.reduceLeDiff, Nat.reduceLT, Nat.reduceAdd, Nat.reduceSub, Nat.reduceMul, Int.reduceLT, Int.reduceLE, Int.reduceEq, Int.reduceAdd, Int.reduceSub, Int.reduceMul, Int.reduceNeg, Int.reduceToNat, reduceCtorEq, hc, gMay_eq, hm, r1, r2]
          exact Abs.out rfl rfl (by (repeat (first | exact Kept.refl | apply Kept.push | refine Kept.kill ?_ (by omega) | refine Kept.set ?_ (by omega))))
    · rw [if_neg (fun hh => hm hh.2)] at hg; cases hg
      by_cases r1 : role = 1
      · subst r1
        simp only [↓STEP, go_sem, ↓reduceIte, Nat.reduceEqDiff, Nat.reduceLeDiff, Nat.reduceLT, Nat.reduceAdd, Nat.reduceSub, Nat.reduceMul, Int.reduceLT, Int.reduceLE, Int.reduceEq, Int.reduceAdd, Int.reduceSub, Int.reduceMul, Int.reduceNeg, Int.reduceToNat, reduceCtorEq, hc, gMay_eq, hm]
        exact Abs.out rfl rfl (by (repeat (first | exact Kept.refl | apply Kept.push | refine Kept.kill ?_ (by omega) | refine Kept.set ?_ (by omega))))
      · by_cases r2 : role = 2
        · subst r2
          simp only [↓STEP, go_sem, ↓reduceIte, Nat.reduceEqDiff, Nat.reduceLeDiff, Nat.reduceLT, Nat.reduceAdd, Nat.reduceSub, Nat.reduceMul, Int.reduceLT, Int.reduceLE, Int.reduceEq, Int.reduceAdd, Int.reduceSub, Int.reduceMul, Int.reduceNeg, Int.reduceToNat, reduceCtorEq, hc, gMay_eq, hm]
          exact Abs.out rfl rfl (by (repeat (first | exact Kept.refl | apply Kept.push | refine Kept.kill ?_ (by omega) | refine Kept.set ?_ (by omega))))
        · simp only [↓STEP, go_sem, ↓reduceIte, Nat.reduceEqDiff, Nat.reduceLeDiff, Nat.reduceLT, Nat.reduceAdd, Nat.reduceSub, Nat.reduceMul, Int.reduceLT, Int.reduceLE, Int.reduceEq, Int.reduceAdd, Int.reduceSub, Int.reduceMul, Int.reduceNeg, Int.reduceToNat, reduceCtorEq, hc, gMay_eq, hm, r1, r2]
          exact Abs.out rfl rfl (by (repeat (first | exact Kept.refl | apply Kept.push | refine Kept.kill ?_ (by omega) | refine Kept.set ?_ (by omega))))
  · cases hg
theorem list12_ok {k : Nat} (hw : pr.ext k = some gMay) : OkFor pr (c_isthmusref12_List k) gList := list_ok hw
end Am
