/- What the functions of the layer 'field' answer: the static table. -/
import Derived.Test.YtmgkdkbmlfciaaaField17
namespace Am
set_option linter.unusedVariables false
set_option linter.unusedSimpArgs false
set_option maxRecDepth 20000
set_option maxHeartbeats 8000000
variable {pr : Prog}

def tabS : List (List UInt8) := [[58, 97, 117, 116, 104, 111, 114, 105, 116, 121], [58, 109, 101, 116, 104, 111, 100, 32, 71, 69, 84], [58, 109, 101, 116, 104, 111, 100, 32, 80, 79, 83, 84], [58, 112, 97, 116, 104, 32, 47], [58, 112, 97, 116, 104, 32, 47, 105, 110, 100, 101, 120, 46, 104, 116, 109, 108], [58, 115, 99, 104, 101, 109, 101, 32, 104, 116, 116, 112], [58, 115, 99, 104, 101, 109, 101, 32, 104, 116, 116, 112, 115], [58, 115, 116, 97, 116, 117, 115, 32, 50, 48, 48], [58, 115, 116, 97, 116, 117, 115, 32, 50, 48, 52], [58, 115, 116, 97, 116, 117, 115, 32, 50, 48, 54], [58, 115, 116, 97, 116, 117, 115, 32, 51, 48, 52], [58, 115, 116, 97, 116, 117, 115, 32, 52, 48, 48], [58, 115, 116, 97, 116, 117, 115, 32, 52, 48, 52], [58, 115, 116, 97, 116, 117, 115, 32, 53, 48, 48], [97, 99, 99, 101, 112, 116, 45, 99, 104, 97, 114, 115, 101, 116], [97, 99, 99, 101, 112, 116, 45, 101, 110, 99, 111, 100, 105, 110, 103, 32, 103, 122, 105, 112, 44, 32, 100, 101, 102, 108, 97, 116, 101], [97, 99, 99, 101, 112, 116, 45, 108, 97, 110, 103, 117, 97, 103, 101], [97, 99, 99, 101, 112, 116, 45, 114, 97, 110, 103, 101, 115], [97, 99, 99, 101, 112, 116], [97, 99, 99, 101, 115, 115, 45, 99, 111, 110, 116, 114, 111, 108, 45, 97, 108, 108, 111, 119, 45, 111, 114, 105, 103, 105, 110], [97, 103, 101], [97, 108, 108, 111, 119], [97, 117, 116, 104, 111, 114, 105, 122, 97, 116, 105, 111, 110], [99, 97, 99, 104, 101, 45, 99, 111, 110, 116, 114, 111, 108], [99, 111, 110, 116, 101, 110, 116, 45, 100, 105, 115, 112, 111, 115, 105, 116, 105, 111, 110], [99, 111, 110, 116, 101, 110, 116, 45, 101, 110, 99, 111, 100, 105, 110, 103], [99, 111, 110, 116, 101, 110, 116, 45, 108, 97, 110, 103, 117, 97, 103, 101], [99, 111, 110, 116, 101, 110, 116, 45, 108, 101, 110, 103, 116, 104], [99, 111, 110, 116, 101, 110, 116, 45, 108, 111, 99, 97, 116, 105, 111, 110], [99, 111, 110, 116, 101, 110, 116, 45, 114, 97, 110, 103, 101], [99, 111, 110, 116, 101, 110, 116, 45, 116, 121, 112, 101], [99, 111, 111, 107, 105, 101], [100, 97, 116, 101], [101, 116, 97, 103], [101, 120, 112, 101, 99, 116], [101, 120, 112, 105, 114, 101, 115], [102, 114, 111, 109], [104, 111, 115, 116], [105, 102, 45, 109, 97, 116, 99, 104], [105, 102, 45, 109, 111, 100, 105, 102, 105, 101, 100, 45, 115, 105, 110, 99, 101], [105, 102, 45, 110, 111, 110, 101, 45, 109, 97, 116, 99, 104], [105, 102, 45, 114, 97, 110, 103, 101], [105, 102, 45, 117, 110, 109, 111, 100, 105, 102, 105, 101, 100, 45, 115, 105, 110, 99, 101], [108, 97, 115, 116, 45, 109, 111, 100, 105, 102, 105, 101, 100], [108, 105, 110, 107], [108, 111, 99, 97, 116, 105, 111, 110], [109, 97, 120, 45, 102, 111, 114, 119, 97, 114, 100, 115], [112, 114, 111, 120, 121, 45, 97, 117, 116, 104, 101, 110, 116, 105, 99, 97, 116, 101], [112, 114, 111, 120, 121, 45, 97, 117, 116, 104, 111, 114, 105, 122, 97, 116, 105, 111, 110], [114, 97, 110, 103, 101], [114, 101, 102, 101, 114, 101, 114], [114, 101, 102, 114, 101, 115, 104], [114, 101, 116, 114, 121, 45, 97, 102, 116, 101, 114], [115, 101, 114, 118, 101, 114], [115, 101, 116, 45, 99, 111, 111, 107, 105, 101], [115, 116, 114, 105, 99, 116, 45, 116, 114, 97, 110, 115, 112, 111, 114, 116, 45, 115, 101, 99, 117, 114, 105, 116, 121], [116, 114, 97, 110, 115, 102, 101, 114, 45, 101, 110, 99, 111, 100, 105, 110, 103], [117, 115, 101, 114, 45, 97, 103, 101, 110, 116], [118, 97, 114, 121], [118, 105, 97], [119, 119, 119, 45, 97, 117, 116, 104, 101, 110, 116, 105, 99, 97, 116, 101]]
def tabR : List (List UInt8) := [[58, 97, 117, 116, 104, 111, 114, 105, 116, 121], [], [58, 109, 101, 116, 104, 111, 100], [71, 69, 84], [58, 109, 101, 116, 104, 111, 100], [80, 79, 83, 84], [58, 112, 97, 116, 104], [47], [58, 112, 97, 116, 104], [47, 105, 110, 100, 101, 120, 46, 104, 116, 109, 108], [58, 115, 99, 104, 101, 109, 101], [104, 116, 116, 112], [58, 115, 99, 104, 101, 109, 101], [104, 116, 116, 112, 115], [58, 115, 116, 97, 116, 117, 115], [50, 48, 48], [58, 115, 116, 97, 116, 117, 115], [50, 48, 52], [58, 115, 116, 97, 116, 117, 115], [50, 48, 54], [58, 115, 116, 97, 116, 117, 115], [51, 48, 52], [58, 115, 116, 97, 116, 117, 115], [52, 48, 48], [58, 115, 116, 97, 116, 117, 115], [52, 48, 52], [58, 115, 116, 97, 116, 117, 115], [53, 48, 48], [97, 99, 99, 101, 112, 116, 45, 99, 104, 97, 114, 115, 101, 116], [], [97, 99, 99, 101, 112, 116, 45, 101, 110, 99, 111, 100, 105, 110, 103], [103, 122, 105, 112, 44, 32, 100, 101, 102, 108, 97, 116, 101], [97, 99, 99, 101, 112, 116, 45, 108, 97, 110, 103, 117, 97, 103, 101], [], [97, 99, 99, 101, 112, 116, 45, 114, 97, 110, 103, 101, 115], [], [97, 99, 99, 101, 112, 116], [], [97, 99, 99, 101, 115, 115, 45, 99, 111, 110, 116, 114, 111, 108, 45, 97, 108, 108, 111, 119, 45, 111, 114, 105, 103, 105, 110], [], [97, 103, 101], [], [97, 108, 108, 111, 119], [], [97, 117, 116, 104, 111, 114, 105, 122, 97, 116, 105, 111, 110], [], [99, 97, 99, 104, 101, 45, 99, 111, 110, 116, 114, 111, 108], [], [99, 111, 110, 116, 101, 110, 116, 45, 100, 105, 115, 112, 111, 115, 105, 116, 105, 111, 110], [], [99, 111, 110, 116, 101, 110, 116, 45, 101, 110, 99, 111, 100, 105, 110, 103], [], [99, 111, 110, 116, 101, 110, 116, 45, 108, 97, 110, 103, 117, 97, 103, 101], [], [99, 111, 110, 116, 101, 110, 116, 45, 108, 101, 110, 103, 116, 104], [], [99, 111, 110, 116, 101, 110, 116, 45, 108, 111, 99, 97, 116, 105, 111, 110], [], [99, 111, 110, 116, 101, 110, 116, 45, 114, 97, 110, 103, 101], [], [99, 111, 110, 116, 101, 110, 116, 45, 116, 121, 112, 101], [], [99, 111, 111, 107, 105, 101], [], [100, 97, 116, 101], [], [101, 116, 97, 103], [], [101, 120, 112, 101, 99, 116], [], [101, 120, 112, 105, 114, 101, 115], [], [102, 114, 111, 109], [], [104, 111, 115, 116], [], [105, 102, 45, 109, 97, 116, 99, 104], [], [105, 102, 45, 109, 111, 100, 105, 102, 105, 101, 100, 45, 115, 105, 110, 99, 101], [], [105, 102, 45, 110, 111, 110, 101, 45, 109, 97, 116, 99, 104], [], [105, 102, 45, 114, 97, 110, 103, 101], [], [105, 102, 45, 117, 110, 109, 111, 100, 105, 102, 105, 101, 100, 45, 115, 105, 110, 99, 101], [], [108, 97, 115, 116, 45, 109, 111, 100, 105, 102, 105, 101, 100], [], [108, 105, 110, 107], [], [108, 111, 99, 97, 116, 105, 111, 110], [], [109, 97, 120, 45, 102, 111, 114, 119, 97, 114, 100, 115], [], [112, 114, 111, 120, 121, 45, 97, 117, 116, 104, 101, 110, 116, 105, 99, 97, 116, 101], [], [112, 114, 111, 120, 121, 45, 97, 117, 116, 104, 111, 114, 105, 122, 97, 116, 105, 111, 110], [], [114, 97, 110, 103, 101], [], [114, 101, 102, 101, 114, 101, 114], [], [114, 101, 102, 114, 101, 115, 104], [], [114, 101, 116, 114, 121, 45, 97, 102, 116, 101, 114], [], [115, 101, 114, 118, 101, 114], [], [115, 101, 116, 45, 99, 111, 111, 107, 105, 101], [], [115, 116, 114, 105, 99, 116, 45, 116, 114, 97, 110, 115, 112, 111, 114, 116, 45, 115, 101, 99, 117, 114, 105, 116, 121], [], [116, 114, 97, 110, 115, 102, 101, 114, 45, 101, 110, 99, 111, 100, 105, 110, 103], [], [117, 115, 101, 114, 45, 97, 103, 101, 110, 116], [], [118, 97, 114, 121], [], [118, 105, 97], [], [119, 119, 119, 45, 97, 117, 116, 104, 101, 110, 116, 105, 99, 97, 116, 101], []]
noncomputable def gTab (T : List (List UInt8)) (as : List V) (h : H) : Option (V × H) :=
  match as with
  | [] => some (.sl (some (h.nx, 0)) T.length T.length true, h.push (.rows 1 (T.map sRow) false))
  | _ => none
theorem static_ok : OkF pr c_field_static (gTab tabS) := by
  intro as h v h' hg
  unfold gTab at hg
  split at hg
  · cases hg
    unfold wpF c_field_static
    refine ⟨by simp, ?_⟩
    simp (maxSteps := 4000000) only [↓STEP, go_sem, ↓reduceIte, Nat.reduceEqDiff, Nat.reduceLeDiff, Nat.reduceLT, Nat.reduceAdd, Nat.reduceSub, Nat.reduceMul, Int.reduceLT, Int.reduceLE, Int.reduceEq, Int.reduceAdd, Int.reduceSub, Int.reduceMul, Int.reduceNeg, Int.reduceToNat, reduceCtorEq]
    refine Abs.eq rfl ?_
    simp only [tabS, List.map_cons, List.map_nil, sRow]
  · cases hg
theorem table_ok : OkF pr c_isthmusref3_Table (gTab tabR) := by
  intro as h v h' hg
  unfold gTab at hg
  split at hg
  · cases hg
    unfold wpF c_isthmusref3_Table
    refine ⟨by simp, ?_⟩
    simp (maxSteps := 4000000) only [↓STEP, go_sem, ↓reduceIte, Nat.reduceEqDiff, Nat.reduceLeDiff, Nat.reduceLT, Nat.reduceAdd, Nat.reduceSub, Nat.reduceMul, Int.reduceLT, Int.reduceLE, Int.reduceEq, Int.reduceAdd, Int.reduceSub, Int.reduceMul, Int.reduceNeg, Int.reduceToNat, reduceCtorEq]
    refine Abs.eq rfl ?_
    simp only [tabR, List.map_cons, List.map_nil, sRow]
  · cases hg
def statF (i : Int) : Option Fd := if 1 ≤ i ∧ i ≤ 61 then (tabS[(i - 1).toNat]?).map cutFd else none
theorem stat_ref : ∀ k : Fin 61, tabS[k.val]?.map cutFd = some ⟨tabR[2 * k.val]!, tabR[2 * k.val + 1]!, false⟩ ∧ (tabS[k.val]!).length < 1000000 := by decide +kernel
def gStat (as : List V) (h : H) : Option (V × H) :=
  match as with
  | [.i .i64 i] => match statF i with
    | some f => some (.tup [.agg f.row, .i .i64 0], h)
    | none => some (.tup [.agg [.s [], .s [], .b false], .i .i64 6], h)
  | _ => none
theorem Static_ok {ks kc : Nat} (hs : pr.ext ks = some (gTab tabS)) (hc : pr.ext kc = some gCut) : OkF pr (c_field_Static ks kc) gStat := by
  intro as h v h' hg
  unfold gStat at hg
  split at hg
  · rename_i i
    have xs := @wpCall_ext pr ks _ hs
    have xc := @wpCall_ext pr kc _ hc
    have es : ∀ g, gTab tabS [] g = some (.sl (some (g.nx, 0)) 61 61 true, g.push (.rows 1 (tabS.map sRow) false)) := fun g => rfl
    generalize hT : tabS.map sRow = T at es
    unfold wpF c_field_Static
    refine ⟨by simp, ?_⟩
    by_cases a : i < 1
    · have : statF i = none := if_neg (by omega)
      rw [this] at hg; cases hg
      simp only [↓STEP, go_sem, ↓reduceIte, Nat.reduceEqDiff, Nat.reduceLeDiff, Nat.reduceLT, Nat.reduceAdd, Nat.reduceSub, Nat.reduceMul, Int.reduceLT, Int.reduceLE, Int.reduceEq, Int.reduceAdd, Int.reduceSub, Int.reduceMul, Int.reduceNeg, Int.reduceToNat, reduceCtorEq, xs, es, a]
      exact Abs.out rfl rfl (by (repeat (first | exact Kept.refl | apply Kept.push | refine Kept.kill ?_ (by omega) | refine Kept.set ?_ (by omega))))
    by_cases b : 61 < i
    · have : statF i = none := if_neg (by omega)
      rw [this] at hg; cases hg
      simp only [↓STEP, go_sem, ↓reduceIte, Nat.reduceEqDiff, Nat.reduceLeDiff, Nat.reduceLT, Nat.reduceAdd, Nat.reduceSub, Nat.reduceMul, Int.reduceLT, Int.reduceLE, Int.reduceEq, Int.reduceAdd, Int.reduceSub, Int.reduceMul, Int.reduceNeg, Int.reduceToNat, reduceCtorEq, xs, es, a, b]
      exact Abs.out rfl rfl (by (repeat (first | exact Kept.refl | apply Kept.push | refine Kept.kill ?_ (by omega) | refine Kept.set ?_ (by omega))))
    · obtain ⟨k, rfl⟩ : ∃ k : Fin 61, i = (k.val : Int) + 1 := ⟨⟨(i - 1).toNat, by omega⟩, by simp; omega⟩
      have hk := k.isLt
      have hr := stat_ref k
      have h61 : tabS.length = 61 := rfl
      have hget : tabS[k.val]? = some tabS[k.val] := List.getElem?_eq_getElem (by omega)
      have hst : statF ((k.val : Int) + 1) = some (cutFd tabS[k.val]) := by
        unfold statF
        rw [if_pos (by omega), show ((k.val : Int) + 1 - 1).toNat = k.val by omega, hget]; rfl
      rw [hst] at hg; cases hg
      have hw1 : Go.IntKind.wrap .i64 ((k.val : Int) + 1 - 1) = (k.val : Int) := by rw [wrap_i64 (by omega) (by omega)]; omega
      have hlt : (k.val : Int) < 61 := by omega
      have hrow : T[k.val]? = some [.s tabS[k.val]] := by rw [← hT, List.getElem?_map, hget]; rfl
      have h61 : tabS.length = 61 := rfl
      have hlen : tabS[k.val].length < 1000000 := by
        have := hr.2
        rw [List.getElem!_eq_getElem?_getD, hget] at this
        exact this
      generalize tabS[k.val] = s at hrow hlen
      have hcut : ∀ g, gCut [.s s] g = some (.agg [.s (cutFd s).n, .s (cutFd s).v, .b (cutFd s).z], g) := fun g => if_pos hlen
      simp only [↓STEP, go_sem, ↓reduceIte, Nat.reduceEqDiff, Nat.reduceLeDiff, Nat.reduceLT, Nat.reduceAdd, Nat.reduceSub, Nat.reduceMul, Int.reduceLT, Int.reduceLE, Int.reduceEq, Int.reduceAdd, Int.reduceSub, Int.reduceMul, Int.reduceNeg, Int.reduceToNat, reduceCtorEq, xs, es, a, b, hw1, hlt, hrow, xc, hcut]
      exact Abs.out rfl rfl (by (repeat (first | exact Kept.refl | apply Kept.push | refine Kept.kill ?_ (by omega) | refine Kept.set ?_ (by omega))))
  · cases hg
theorem rStatic_ok {kt : Nat} (hs : pr.ext kt = some (gTab tabR)) : OkF pr (c_isthmusref3_Static kt) gStat := by
  intro as h v h' hg
  unfold gStat at hg
  split at hg
  · rename_i i
    have xs := @wpCall_ext pr kt _ hs
    have es : ∀ g, gTab tabR [] g = some (.sl (some (g.nx, 0)) 122 122 true, g.push (.rows 1 (tabR.map sRow) false)) := fun g => rfl
    generalize hT : tabR.map sRow = T at es
    unfold wpF c_isthmusref3_Static
    refine ⟨by simp, ?_⟩
    by_cases a : i < 1
    · have : statF i = none := if_neg (by omega)
      rw [this] at hg; cases hg
      simp only [↓STEP, go_sem, ↓reduceIte, Nat.reduceEqDiff, Nat.reduceLeDiff, Nat.reduceLT, Nat.reduceAdd, Nat.reduceSub, Nat.reduceMul, Int.reduceLT, Int.reduceLE, Int.reduceEq, Int.reduceAdd, Int.reduceSub, Int.reduceMul, Int.reduceNeg, Int.reduceToNat, reduceCtorEq, xs, es, a]
      exact Abs.out rfl rfl (by (repeat (first | exact Kept.refl | apply Kept.push | refine Kept.kill ?_ (by omega) | refine Kept.set ?_ (by omega))))
    by_cases b : 61 < i
    · have : statF i = none := if_neg (by omega)
      rw [this] at hg; cases hg
      simp only [↓STEP, go_sem, ↓reduceIte, Nat.reduceEqDiff, Nat.reduceLeDiff, Nat.reduceLT, Nat.reduceAdd, Nat.reduceSub, Nat.reduceMul, Int.reduceLT, Int.reduceLE, Int.reduceEq, Int.reduceAdd, Int.reduceSub, Int.reduceMul, Int.reduceNeg, Int.reduceToNat, reduceCtorEq, xs, es, a, b]
      exact Abs.out rfl rfl (by (repeat (first | exact Kept.refl | apply Kept.push | refine Kept.kill ?_ (by omega) | refine Kept.set ?_ (by omega))))
    · obtain ⟨k, rfl⟩ : ∃ k : Fin 61, i = (k.val : Int) + 1 := ⟨⟨(i - 1).toNat, by omega⟩, by simp; omega⟩
      have hk := k.isLt
      have hr := (stat_ref k).1
      have hst : statF ((k.val : Int) + 1) = some ⟨tabR[2 * k.val]!, tabR[2 * k.val + 1]!, false⟩ := by
        unfold statF
        rw [if_pos (by omega), show ((k.val : Int) + 1 - 1).toNat = k.val by omega, hr]
      rw [hst] at hg; cases hg
      have h122 : tabR.length = 122 := rfl
      have g1 : tabR[2 * k.val]? = some tabR[2 * k.val]! := by rw [List.getElem!_eq_getElem?_getD, List.getElem?_eq_getElem (by omega)]; rfl
      have g2 : tabR[2 * k.val + 1]? = some tabR[2 * k.val + 1]! := by rw [List.getElem!_eq_getElem?_getD, List.getElem?_eq_getElem (by omega)]; rfl
      have hw0 : Go.IntKind.wrap .i64 (2 * ((k.val : Int) + 1)) = 2 * ((k.val : Int) + 1) := wrap_i64 (by omega) (by omega)
      have hw1 : Go.IntKind.wrap .i64 (2 * ((k.val : Int) + 1) - 2) = ((2 * k.val : Nat) : Int) := by rw [wrap_i64 (by omega) (by omega)]; omega
      have hw2 : Go.IntKind.wrap .i64 (2 * ((k.val : Int) + 1) - 1) = ((2 * k.val + 1 : Nat) : Int) := by rw [wrap_i64 (by omega) (by omega)]; omega
      have hlt1 : ((2 * k.val : Nat) : Int) < 122 := by omega
      have hlt2 : ((2 * k.val + 1 : Nat) : Int) < 122 := by omega
      have r1 : T[2 * k.val]? = some [.s tabR[2 * k.val]!] := by rw [← hT, List.getElem?_map, g1]; rfl
      have r2 : T[2 * k.val + 1]? = some [.s tabR[2 * k.val + 1]!] := by rw [← hT, List.getElem?_map, g2]; rfl
      generalize tabR[2 * k.val]! = s1 at r1
      generalize tabR[2 * k.val + 1]! = s2 at r2
      simp only [↓STEP, go_sem, ↓reduceIte, Nat.reduceEqDiff, Nat.reduceLeDiff, Nat.reduceLT, Nat.reduceAdd, Nat.reduceSub, Nat.reduceMul, Int.reduceLT, Int.reduceLE, Int.reduceEq, Int.reduceAdd, Int.reduceSub, Int.reduceMul, Int.reduceNeg, Int.reduceToNat, reduceCtorEq, xs, es, a, b, hw0, hw1, hw2, hlt1, hlt2, r1, r2]
      exact Abs.out rfl rfl (by (repeat (first | exact Kept.refl | apply Kept.push | refine Kept.kill ?_ (by omega) | refine Kept.set ?_ (by omega))))
  · cases hg
end Am
