/- What the functions of the layer 'field' answer: the reference's names; values. -/
import Derived.Test.YtibmhhdgcbaofaaDoorField1
namespace Am
set_option linter.unusedVariables false
set_option linter.unusedSimpArgs false
set_option maxRecDepth 10000
set_option maxHeartbeats 4000000
variable {pr : Prog}

/-! ### Values -/
def blankB (c : UInt8) : Bool := decide ((c.toNat : Int) = 32) || decide ((c.toNat : Int) = 9)
def gBlank (as : List V) (h : H) : Option (V × H) :=
  match as with
  | [.i .u8 n] => some (.b (decide (n = 32) || decide (n = 9)), h)
  | _ => none
theorem gBlank_eq (c : UInt8) (h : H) : gBlank [.i .u8 (c.toNat : Int)] h = some (.b (blankB c), h) := rfl
theorem blank_ok : OkF pr c_field_blank gBlank := by
  intro as h v h' hg
  unfold gBlank at hg
  split at hg
  · rename_i n
    cases hg
    unfold wpF c_field_blank
    refine ⟨by simp, ?_⟩
    by_cases h1 : n = 32
    · simp only [↓STEP, go_sem, ↓reduceIte, Nat.reduceEqDiff, Nat.reduceLeDiff, Nat.reduceLT, Nat.reduceAdd, Nat.reduceSub, Nat.reduceMul, Int.reduceLT, Int.reduceLE, Int.reduceEq, Int.reduceAdd, Int.reduceSub, Int.reduceMul, Int.reduceNeg, Int.reduceToNat, reduceCtorEq, h1]
      exact Abs.eq rfl rfl
    · simp only [↓STEP, go_sem, ↓reduceIte, Nat.reduceEqDiff, Nat.reduceLeDiff, Nat.reduceLT, Nat.reduceAdd, Nat.reduceSub, Nat.reduceMul, Int.reduceLT, Int.reduceLE, Int.reduceEq, Int.reduceAdd, Int.reduceSub, Int.reduceMul, Int.reduceNeg, Int.reduceToNat, reduceCtorEq, h1]
      exact Abs.eq rfl rfl
  · cases hg
def bad3 (c : UInt8) : Bool := decide ((c.toNat : Int) = 0) || decide ((c.toNat : Int) = 10) || decide ((c.toNat : Int) = 13)
def valueB (l : List UInt8) : Bool := decide (l.length ≤ 65536) && !l.any bad3 && (match l with
  | [] => true
  | c :: _ => !blankB c && !blankB (l.getLastD 0))
def gValue (as : List V) (h : H) : Option (V × H) :=
  match as with
  | [.s l] => some (.b (valueB l), h)
  | _ => none
theorem gValue_eq (l : List UInt8) (h : H) : gValue [.s l] h = some (.b (valueB l), h) := rfl
/-- strings.ContainsAny with the three bytes that a value may not hold. -/
def gCA (as : List V) (h : H) : Option (V × H) :=
  match as with
  | [.s l, .s cs] => if cs = [0, 10, 13] ∧ l.length ≤ 65536 then some (.b (l.any bad3), h) else none
  | _ => none
theorem gCA_eq (l : List UInt8) (h : H) (hl : l.length ≤ 65536) : gCA [.s l, .s [0, 10, 13]] h = some (.b (l.any bad3), h) := by
  simp only [gCA]; rw [if_pos ⟨trivial, hl⟩]
theorem value_ok {k kb : Nat} (hw : pr.ext k = some gCA) (hb : pr.ext kb = some gBlank) : OkF pr (c_field_Value k kb) gValue := by
  intro as h v h' hg
  unfold gValue at hg
  split at hg
  · rename_i l
    cases hg
    have hc := @wpCall_ext pr k _ hw
    have hcb := @wpCall_ext pr kb _ hb
    unfold wpF c_field_Value
    refine ⟨by simp, ?_⟩
    by_cases hl : (65536 : Int) < l.length
    · simp only [↓STEP, go_sem, ↓reduceIte, Nat.reduceEqDiff, Nat.reduceLeDiff, Nat.reduceLT, Nat.reduceAdd, Nat.reduceSub, Nat.reduceMul, Int.reduceLT, Int.reduceLE, Int.reduceEq, Int.reduceAdd, Int.reduceSub, Int.reduceMul, Int.reduceNeg, Int.reduceToNat, reduceCtorEq, hl]
      exact Abs.eq (by unfold valueB; rw [decide_eq_false (by omega)]; simp) rfl
    · have hl' : l.length ≤ 65536 := by omega
      have hca := gCA_eq l h hl'
      cases hbad : l.any bad3
      · rw [hbad] at hca
        cases l with
        | nil =>
          simp only [↓STEP, go_sem, ↓reduceIte, Nat.reduceEqDiff, Nat.reduceLeDiff, Nat.reduceLT, Nat.reduceAdd, Nat.reduceSub, Nat.reduceMul, Int.reduceLT, Int.reduceLE, Int.reduceEq, Int.reduceAdd, Int.reduceSub, Int.reduceMul, Int.reduceNeg, Int.reduceToNat, reduceCtorEq, hl, hc, hca]
          exact Abs.eq rfl rfl
        | cons c cs =>
          have hne : ¬ (c :: cs) = [] := by simp
          have hw1 : Go.IntKind.wrap .i64 (((c :: cs).length : Int) - 1) = (((c :: cs).length : Int) - 1) := wrap_i64 (by simp) (by omega)
          have hge : (0 : Int) ≤ ((c :: cs).length : Int) - 1 := by simp
          have hn : (((c :: cs).length : Int) - 1).toNat = cs.length := by simp
          have hlast : (c :: cs)[cs.length]? = some ((c :: cs).getLastD 0) := by
            rw [List.getLastD_eq_getLast?, List.getLast?_eq_getElem?]; simp
          have hgb := gBlank_eq c h
          have hgl := gBlank_eq ((c :: cs).getLastD 0) h
          generalize hL : (c :: cs) = L at *
          have h0 : L[0]? = some c := by rw [← hL]; rfl
          cases b1 : blankB c
          · simp only [↓STEP, go_sem, ↓reduceIte, Nat.reduceEqDiff, Nat.reduceLeDiff, Nat.reduceLT, Nat.reduceAdd, Nat.reduceSub, Nat.reduceMul, Int.reduceLT, Int.reduceLE, Int.reduceEq, Int.reduceAdd, Int.reduceSub, Int.reduceMul, Int.reduceNeg, Int.reduceToNat, reduceCtorEq, hl, hc, hca, hcb, hne, hw1, hge, hn, hlast, h0, hgb, hgl, b1]
            refine Abs.eq ?_ rfl
            unfold valueB; rw [hbad, decide_eq_true hl', ← hL]; simp [b1]
          · simp only [↓STEP, go_sem, ↓reduceIte, Nat.reduceEqDiff, Nat.reduceLeDiff, Nat.reduceLT, Nat.reduceAdd, Nat.reduceSub, Nat.reduceMul, Int.reduceLT, Int.reduceLE, Int.reduceEq, Int.reduceAdd, Int.reduceSub, Int.reduceMul, Int.reduceNeg, Int.reduceToNat, reduceCtorEq, hl, hc, hca, hcb, hne, hw1, hge, hn, hlast, h0, hgb, hgl, b1]
            refine Abs.eq ?_ rfl
            unfold valueB; rw [hbad, decide_eq_true hl', ← hL]; simp [b1]
      · rw [hbad] at hca
        simp only [↓STEP, go_sem, ↓reduceIte, Nat.reduceEqDiff, Nat.reduceLeDiff, Nat.reduceLT, Nat.reduceAdd, Nat.reduceSub, Nat.reduceMul, Int.reduceLT, Int.reduceLE, Int.reduceEq, Int.reduceAdd, Int.reduceSub, Int.reduceMul, Int.reduceNeg, Int.reduceToNat, reduceCtorEq, hl, hc, hca]
        exact Abs.eq (by unfold valueB; rw [hbad]; simp) rfl
  · cases hg
end Am
