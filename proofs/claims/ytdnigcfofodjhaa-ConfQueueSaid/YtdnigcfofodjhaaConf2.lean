/- What the functions of the layer 'conf' answer: settings that come. -/
import Derived.Test.YtdnigcfofodjhaaConf1
import Derived.Test.YtdnigcfofodjhaaAmAbs2
namespace Am
set_option linter.unusedVariables false
set_option linter.unusedSimpArgs false
set_option maxRecDepth 10000
variable {pr : Prog}

/-- Settings: Table, Streams, Window, Frame, List. -/
structure Cf where
  a : Int
  b : Int
  c : Int
  d : Int
  e : Int
def Cf.row (c : Cf) : List V := [.i .i64 c.a, .i .i64 c.b, .i .i64 c.c, .i .i64 c.d, .i .i64 c.e]
def apply1 (role : Int) (c : Cf) (id v : Int) : Cf × Int :=
  if within v 0 4294967295 = false then (c, 1)
  else if id = 1 then ({ c with a := v }, 0)
  else if id = 2 then (if 1 < v then (c, 1) else if v = 1 then (if role = 1 then (c, 1) else (c, 0)) else (c, 0))
  else if id = 3 then ({ c with b := v }, 0)
  else if id = 4 then (if 2147483647 < v then (c, 3) else ({ c with c := v }, 0))
  else if id = 5 then (if within v 16384 16777215 = false then (c, 1) else ({ c with d := v }, 0))
  else if id = 6 then ({ c with e := v }, 0)
  else (c, 0)
/-- A pointer to settings, in a block of their own. -/
def gApply1 (as : List V) (h : H) : Option (V × H) :=
  match as with
  | [.i .i64 role, .p (some (p, 0, 0)), .agg [.i .i64 id, .i .i64 v]] =>
    match h.get p with
    | some (.rows 5 [[.i .i64 a, .i .i64 b, .i .i64 c, .i .i64 d, .i .i64 e]] false) =>
      if p < h.nx then some (.i .i64 (apply1 role ⟨a, b, c, d, e⟩ id v).2, h.set p (.rows 5 [(apply1 role ⟨a, b, c, d, e⟩ id v).1.row] false)) else none
    | _ => none
  | _ => none
theorem apply1_ok {k : Nat} (hw : pr.ext k = some gWithin) : OkFor pr (c_conf_apply k) gApply1 := by
  intro as h v h' hg
  unfold gApply1 at hg
  split at hg
  · rename_i role p id s
    split at hg
    · rename_i a b c d e hp
      split at hg
      · rename_i hlt
        have hc := @wpCall_ext pr k gWithin hw
        unfold wpF c_conf_apply
        refine ⟨by simp, ?_⟩
        have hpn : p ≠ h.nx := Nat.ne_of_lt hlt
        cases h1 : within s 0 4294967295
        · simp only [apply1, h1, if_true, Cf.row] at hg
          cases hg
          simp only [↓STEP, go_sem, ↓reduceIte, Nat.reduceEqDiff, Nat.reduceLeDiff, Nat.reduceLT, Nat.reduceAdd, Nat.reduceSub, Nat.reduceMul, Int.reduceLT, Int.reduceLE, Int.reduceEq, Int.reduceAdd, Int.reduceSub, Int.reduceMul, Int.reduceNeg, Int.reduceToNat, reduceCtorEq, hc, gWithin_eq, h1, hp, hpn]
          exact Abs.wrote rfl rfl (wrote_set hp rfl (by simp [H.get_push, hpn, hp]) (by (repeat (first | exact KeptBut.refl | apply KeptBut.push | apply KeptBut.setb | refine KeptBut.kill ?_ (by omega) | refine KeptBut.set ?_ (by omega)))))
        · simp only [apply1, h1, Bool.true_eq_false, if_false] at hg
          by_cases i1 : id = 1
          · subst i1
            simp only [if_true, Int.reduceEq, if_false] at hg
            simp only [Cf.row] at hg; cases hg
            simp only [↓STEP, go_sem, ↓reduceIte, Nat.reduceEqDiff, Nat.reduceLeDiff, Nat.reduceLT, Nat.reduceAdd, Nat.reduceSub, Nat.reduceMul, Int.reduceLT, Int.reduceLE, Int.reduceEq, Int.reduceAdd, Int.reduceSub, Int.reduceMul, Int.reduceNeg, Int.reduceToNat, reduceCtorEq, hc, gWithin_eq, h1, hp, hpn]
            exact Abs.wrote rfl rfl (wrote_set hp rfl (by simp [H.get_push, H.get_set, hpn, hp]) (by (repeat (first | exact KeptBut.refl | apply KeptBut.push | apply KeptBut.setb | refine KeptBut.kill ?_ (by omega) | refine KeptBut.set ?_ (by omega)))))
          simp only [i1, if_false] at hg
          by_cases i2 : id = 2
          · subst i2
            simp only [if_true, Int.reduceEq, if_false] at hg
            by_cases v1 : 1 < s
            · simp only [v1, if_true, Cf.row] at hg; cases hg
              simp only [↓STEP, go_sem, ↓reduceIte, Nat.reduceEqDiff, Nat.reduceLeDiff, Nat.reduceLT, Nat.reduceAdd, Nat.reduceSub, Nat.reduceMul, Int.reduceLT, Int.reduceLE, Int.reduceEq, Int.reduceAdd, Int.reduceSub, Int.reduceMul, Int.reduceNeg, Int.reduceToNat, reduceCtorEq, hc, gWithin_eq, h1, hp, hpn, v1]
              exact Abs.wrote rfl rfl (wrote_set hp rfl (by simp [H.get_push, H.get_set, hpn, hp]) (by (repeat (first | exact KeptBut.refl | apply KeptBut.push | apply KeptBut.setb | refine KeptBut.kill ?_ (by omega) | refine KeptBut.set ?_ (by omega)))))
            · by_cases v2 : s = 1
              · subst v2
                by_cases r1 : role = 1
                · simp only [r1, if_true, if_false, Cf.row, Int.lt_irrefl] at hg; cases hg
                  simp only [↓STEP, go_sem, ↓reduceIte, Nat.reduceEqDiff, Nat.reduceLeDiff, Nat.reduceLT, Nat.reduceAdd, Nat.reduceSub, Nat.reduceMul, Int.reduceLT, Int.reduceLE, Int.reduceEq, Int.reduceAdd, Int.reduceSub, Int.reduceMul, Int.reduceNeg, Int.reduceToNat, reduceCtorEq, hc, gWithin_eq, h1, hp, hpn, r1]
                  exact Abs.wrote rfl rfl (wrote_set hp rfl (by simp [H.get_push, H.get_set, hpn, hp]) (by (repeat (first | exact KeptBut.refl | apply KeptBut.push | apply KeptBut.setb | refine KeptBut.kill ?_ (by omega) | refine KeptBut.set ?_ (by omega)))))
                · simp only [r1, if_true, if_false, Cf.row, Int.lt_irrefl] at hg; cases hg
                  simp only [↓STEP, go_sem, ↓reduceIte, Nat.reduceEqDiff, Nat.reduceLeDiff, Nat.reduceLT, Nat.reduceAdd, Nat.reduceSub, Nat.reduceMul, Int.reduceLT, Int.reduceLE, Int.reduceEq, Int.reduceAdd, Int.reduceSub, Int.reduceMul, Int.reduceNeg, Int.reduceToNat, reduceCtorEq, hc, gWithin_eq, h1, hp, hpn, r1]
                  exact Abs.wrote rfl rfl (wrote_set hp rfl (by simp [H.get_push, H.get_set, hpn, hp]) (by (repeat (first | exact KeptBut.refl | apply KeptBut.push | apply KeptBut.setb | refine KeptBut.kill ?_ (by omega) | refine KeptBut.set ?_ (by omega)))))
              · simp only [v1, v2, if_true, if_false, Cf.row] at hg; cases hg
                simp only [↓STEP, go_sem, ↓reduceIte, Nat.reduceEqDiff, Nat.reduceLeDiff, Nat.reduceLT, Nat.reduceAdd, Nat.reduceSub, Nat.reduceMul, Int.reduceLT, Int.reduceLE, Int.reduceEq, Int.reduceAdd, Int.reduceSub, Int.reduceMul, Int.reduceNeg, Int.reduceToNat, reduceCtorEq, hc, gWithin_eq, h1, hp, hpn, v1, v2]
                exact Abs.wrote rfl rfl (wrote_set hp rfl (by simp [H.get_push, H.get_set, hpn, hp]) (by (repeat (first | exact KeptBut.refl | apply KeptBut.push | apply KeptBut.setb | refine KeptBut.kill ?_ (by omega) | refine KeptBut.set ?_ (by omega)))))
          simp only [i2, if_false] at hg
          by_cases i3 : id = 3
          · subst i3
            simp only [if_true, Int.reduceEq, if_false] at hg
            simp only [Cf.row] at hg; cases hg
            simp only [↓STEP, go_sem, ↓reduceIte, Nat.reduceEqDiff, Nat.reduceLeDiff, Nat.reduceLT, Nat.reduceAdd, Nat.reduceSub, Nat.reduceMul, Int.reduceLT, Int.reduceLE, Int.reduceEq, Int.reduceAdd, Int.reduceSub, Int.reduceMul, Int.reduceNeg, Int.reduceToNat, reduceCtorEq, hc, gWithin_eq, h1, hp, hpn]
            exact Abs.wrote rfl rfl (wrote_set hp rfl (by simp [H.get_push, H.get_set, hpn, hp]) (by (repeat (first | exact KeptBut.refl | apply KeptBut.push | apply KeptBut.setb | refine KeptBut.kill ?_ (by omega) | refine KeptBut.set ?_ (by omega)))))
          simp only [i3, if_false] at hg
          by_cases i4 : id = 4
          · subst i4
            simp only [if_true, Int.reduceEq, if_false] at hg
            by_cases v1 : 2147483647 < s
            · simp only [v1, if_true, Cf.row] at hg; cases hg
              simp only [↓STEP, go_sem, ↓reduceIte, Nat.reduceEqDiff, Nat.reduceLeDiff, Nat.reduceLT, Nat.reduceAdd, Nat.reduceSub, Nat.reduceMul, Int.reduceLT, Int.reduceLE, Int.reduceEq, Int.reduceAdd, Int.reduceSub, Int.reduceMul, Int.reduceNeg, Int.reduceToNat, reduceCtorEq, hc, gWithin_eq, h1, hp, hpn, v1]
              exact Abs.wrote rfl rfl (wrote_set hp rfl (by simp [H.get_push, H.get_set, hpn, hp]) (by (repeat (first | exact KeptBut.refl | apply KeptBut.push | apply KeptBut.setb | refine KeptBut.kill ?_ (by omega) | refine KeptBut.set ?_ (by omega)))))
            · simp only [v1, if_false, Cf.row] at hg; cases hg
              simp only [↓STEP, go_sem, ↓reduceIte, Nat.reduceEqDiff, Nat.reduceLeDiff, Nat.reduceLT, Nat.reduceAdd, Nat.reduceSub, Nat.reduceMul, Int.reduceLT, Int.reduceLE, Int.reduceEq, Int.reduceAdd, Int.reduceSub, Int.reduceMul, Int.reduceNeg, Int.reduceToNat, reduceCtorEq, hc, gWithin_eq, h1, hp, hpn, v1]
              exact Abs.wrote rfl rfl (wrote_set hp rfl (by simp [H.get_push, H.get_set, hpn, hp]) (by (repeat (first | exact KeptBut.refl | apply KeptBut.push | apply KeptBut.setb | refine KeptBut.kill ?_ (by omega) | refine KeptBut.set ?_ (by omega)))))
          simp only [i4, if_false] at hg
          by_cases i5 : id = 5
          · subst i5
            simp only [if_true, Int.reduceEq, if_false] at hg
            cases v1 : within s 16384 16777215
            · simp only [v1, if_true, Cf.row] at hg; cases hg
              simp only [↓STEP, go_sem, ↓reduceIte, Nat.reduceEqDiff, Nat.reduceLeDiff, Nat.reduceLT, Nat.reduceAdd, Nat.reduceSub, Nat.reduceMul, Int.reduceLT, Int.reduceLE, Int.reduceEq, Int.reduceAdd, Int.reduceSub, Int.reduceMul, Int.reduceNeg, Int.reduceToNat, reduceCtorEq, hc, gWithin_eq, h1, hp, hpn, v1]
              exact Abs.wrote rfl rfl (wrote_set hp rfl (by simp [H.get_push, H.get_set, hpn, hp]) (by (repeat (first | exact KeptBut.refl | apply KeptBut.push | apply KeptBut.setb | refine KeptBut.kill ?_ (by omega) | refine KeptBut.set ?_ (by omega)))))
            · simp only [v1, Bool.true_eq_false, if_false, Cf.row] at hg; cases hg
              simp only [↓STEP, go_sem, ↓reduceIte, Nat.reduceEqDiff, Nat.reduceLeDiff, Nat.reduceLT, Nat.reduceAdd, Nat.reduceSub, Nat.reduceMul, Int.reduceLT, Int.reduceLE, Int.reduceEq, Int.reduceAdd, Int.reduceSub, Int.reduceMul, Int.reduceNeg, Int.reduceToNat, reduceCtorEq, hc, gWithin_eq, h1, hp, hpn, v1]
              exact Abs.wrote rfl rfl (wrote_set hp rfl (by simp [H.get_push, H.get_set, hpn, hp]) (by (repeat (first | exact KeptBut.refl | apply KeptBut.push | apply KeptBut.setb | refine KeptBut.kill ?_ (by omega) | refine KeptBut.set ?_ (by omega)))))
          simp only [i5, if_false] at hg
          by_cases i6 : id = 6
          · subst i6
            simp only [if_true, Int.reduceEq, if_false] at hg
            simp only [Cf.row] at hg; cases hg
            simp only [↓STEP, go_sem, ↓reduceIte, Nat.reduceEqDiff, Nat.reduceLeDiff, Nat.reduceLT, Nat.reduceAdd, Nat.reduceSub, Nat.reduceMul, Int.reduceLT, Int.reduceLE, Int.reduceEq, Int.reduceAdd, Int.reduceSub, Int.reduceMul, Int.reduceNeg, Int.reduceToNat, reduceCtorEq, hc, gWithin_eq, h1, hp, hpn]
            exact Abs.wrote rfl rfl (wrote_set hp rfl (by simp [H.get_push, H.get_set, hpn, hp]) (by (repeat (first | exact KeptBut.refl | apply KeptBut.push | apply KeptBut.setb | refine KeptBut.kill ?_ (by omega) | refine KeptBut.set ?_ (by omega)))))
          simp only [i6, if_false] at hg
          simp only [Cf.row] at hg; cases hg
          simp only [↓STEP, go_sem, ↓reduceIte, Nat.reduceEqDiff, Nat.reduceLeDiff, Nat.reduceLT, Nat.reduceAdd, Nat.reduceSub, Nat.reduceMul, Int.reduceLT, Int.reduceLE, Int.reduceEq, Int.reduceAdd, Int.reduceSub, Int.reduceMul, Int.reduceNeg, Int.reduceToNat, reduceCtorEq, hc, gWithin_eq, h1, hp, hpn, i1, i2, i3, i4, i5, i6]
          exact Abs.wrote rfl rfl (wrote_set hp rfl (by simp [H.get_push, H.get_set, hpn, hp]) (by (repeat (first | exact KeptBut.refl | apply KeptBut.push | apply KeptBut.setb | refine KeptBut.kill ?_ (by omega) | refine KeptBut.set ?_ (by omega)))))
      · cases hg
    · cases hg
  · cases hg
end Am
