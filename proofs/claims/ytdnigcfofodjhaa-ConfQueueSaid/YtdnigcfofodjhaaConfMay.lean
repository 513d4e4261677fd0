/- The law ConfMay, over what the functions of the layer 'conf' answer. -/
import Derived.Test.YtdnigcfofodjhaaConf1
namespace Am
set_option linter.unusedVariables false
set_option linter.unusedSimpArgs false
set_option maxRecDepth 10000
variable {pr : Prog}

theorem xConst_eq (v : V) (h : H) : xConst v [] h = some (v, h) := rfl
theorem confRows_get (role c0 c1 c2 c3 c4 : Int) (i : Nat) (hi : i < (confRows role c0 c1 c2 c3 c4).length) : ∃ a b, (confRows role c0 c1 c2 c3 c4)[i]? = some [.i .i64 a, .i .i64 b] := by
  unfold confRows at hi ⊢
  split
  · rename_i hr
    rw [if_pos hr] at hi
    match i, hi with
    | 0, _ => exact ⟨_, _, rfl⟩
    | 1, _ => exact ⟨_, _, rfl⟩
    | 2, _ => exact ⟨_, _, rfl⟩
    | 3, _ => exact ⟨_, _, rfl⟩
    | 4, _ => exact ⟨_, _, rfl⟩
    | 5, _ => exact ⟨_, _, rfl⟩
    | n + 6, hi => simp at hi; omega
  · rename_i hr
    rw [if_neg hr] at hi
    match i, hi with
    | 0, _ => exact ⟨_, _, rfl⟩
    | 1, _ => exact ⟨_, _, rfl⟩
    | 2, _ => exact ⟨_, _, rfl⟩
    | 3, _ => exact ⟨_, _, rfl⟩
    | 4, _ => exact ⟨_, _, rfl⟩
    | n + 5, hi => simp at hi; omega
theorem gList_pos {role c0 c1 c2 c3 c4 : Int} {h : H} (hr : (role = 1 ∨ role = 2) ∧ okMay c0 c1 c2 c3 c4 = true) : gList [.i .i64 role, .agg [.i .i64 c0, .i .i64 c1, .i .i64 c2, .i .i64 c3, .i .i64 c4]] h =
    some (.tup [.sl (some (h.nx, 0)) (confRows role c0 c1 c2 c3 c4).length (confRows role c0 c1 c2 c3 c4).length false, .i .i64 0], h.push (.rows 2 (confRows role c0 c1 c2 c3 c4) false)) := by
  simp only [gList]; rw [if_pos hr]
theorem gList_neg {role c0 c1 c2 c3 c4 : Int} {h : H} (hr : ¬ ((role = 1 ∨ role = 2) ∧ okMay c0 c1 c2 c3 c4 = true)) : gList [.i .i64 role, .agg [.i .i64 c0, .i .i64 c1, .i .i64 c2, .i .i64 c3, .i .i64 c4]] h = some (.tup [.sl none 0 0 true, .i .i64 1], h) := by
  simp only [gList]; rw [if_neg hr]
theorem confRows_len (role c0 c1 c2 c3 c4 : Int) : (confRows role c0 c1 c2 c3 c4).length ≤ 6 := by unfold confRows; split <;> simp

def MayLoop (rs : List (List V)) (b1 b2 : Nat) (ex : Bool) (m : Nat) (t : Tm) (g : H) : Prop :=
  ∃ i : Nat, m = rs.length - i ∧ i ≤ rs.length ∧ t.v 10 = .i .i64 i ∧ t.v 6 = .sl (some (b1, 0)) rs.length rs.length ex ∧ t.v 8 = .sl (some (b2, 0)) rs.length rs.length ex ∧ t.v 5 = .b true ∧
      g.get b1 = some (.rows 2 rs false) ∧ g.get b2 = some (.rows 2 rs false)
theorem confMay_law {kb kl kl2 km km2 : Nat} (hb : pr.ext kb = some (xConst (.b true))) (hl : pr.ext kl = some gList) (hl2 : pr.ext kl2 = some gList) (hm : pr.ext km = some gMay) (hm2 : pr.ext km2 = some gMay)
    (role c0 c1 c2 c3 c4 : Int) (h : H) : wpF pr (c_isthmuslaw12_ConfMay kb kl kl2 km km2) [.i .i64 role, .agg [.i .i64 c0, .i .i64 c1, .i .i64 c2, .i .i64 c3, .i .i64 c4]] h (fun v _ => v = .b true) := by
  have xb := @wpCall_ext pr kb _ hb
  have xl := @wpCall_ext pr kl _ hl
  have xl2 := @wpCall_ext pr kl2 _ hl2
  have xm := @wpCall_ext pr km _ hm
  have xm2 := @wpCall_ext pr km2 _ hm2
  unfold wpF c_isthmuslaw12_ConfMay
  refine ⟨by simp, ?_⟩
  by_cases hr : (role = 1 ∨ role = 2) ∧ okMay c0 c1 c2 c3 c4 = true
  · simp only [↓STEP, go_sem, ↓reduceIte, Nat.reduceEqDiff, Nat.reduceLeDiff, Nat.reduceLT, Nat.reduceAdd, Nat.reduceSub, Nat.reduceMul, Int.reduceLT, Int.reduceLE, Int.reduceEq, Int.reduceAdd, Int.reduceSub, Int.reduceMul, Int.reduceNeg, Int.reduceToNat, reduceCtorEq, xb, xl, xl2, xm, xm2, xConst_eq, gList_pos hr, gMay_eq]
    have hlen := confRows_len role c0 c1 c2 c3 c4
    have hget := confRows_get role c0 c1 c2 c3 c4
    generalize hrs : confRows role c0 c1 c2 c3 c4 = rs at *
    refine wpA_loop_inv (MayLoop rs (h.nx + 1) (h.nx + 2) false) ?_ (m := rs.length) ?_
    · rintro m t g ⟨i, rfl, hi, e10, e6, e8, e5, g1, g2⟩
      by_cases hlt : i < rs.length
      · obtain ⟨a, b, hab⟩ := hget i hlt
        have hlt' : (i : Int) < (rs.length : Int) := by omega
        have hw : Go.IntKind.wrap .i64 ((i : Int) + 1) = (i : Int) + 1 := wrap_i64 (by omega) (by omega)
        simp only [↓STEP, go_sem, ↓reduceIte, Nat.reduceEqDiff, Nat.reduceLeDiff, Nat.reduceLT, Nat.reduceAdd, Nat.reduceSub, Nat.reduceMul, Int.reduceLT, Int.reduceLE, Int.reduceEq, Int.reduceAdd, Int.reduceSub, Int.reduceMul, Int.reduceNeg, Int.reduceToNat, reduceCtorEq, e10, e6, e8, g1, g2, hab, hlt', hw, Int.toNat_natCast, Int.natCast_nonneg, not_true_eq_false]
        exact ⟨_, by omega, i + 1, rfl, by omega, by simp [v_pd], by simp [v_pd, e6], by simp [v_pd, e8], by simp [v_pd, e5], g1, g2⟩
      · have hlt' : ¬ (i : Int) < (rs.length : Int) := by omega
        simp only [↓STEP, go_sem, ↓reduceIte, Nat.reduceEqDiff, Nat.reduceLeDiff, Nat.reduceLT, Nat.reduceAdd, Nat.reduceSub, Nat.reduceMul, Int.reduceLT, Int.reduceLE, Int.reduceEq, Int.reduceAdd, Int.reduceSub, Int.reduceMul, Int.reduceNeg, Int.reduceToNat, reduceCtorEq, e10, e6, e8, g1, g2, hlt', e5]
    · exact ⟨0, rfl, Nat.zero_le _, by simp only [↓STEP, go_sem, ↓reduceIte, Nat.reduceEqDiff, Nat.reduceLeDiff, Nat.reduceLT, Nat.reduceAdd, Nat.reduceSub, Nat.reduceMul, Int.reduceLT, Int.reduceLE, Int.reduceEq, Int.reduceAdd, Int.reduceSub, Int.reduceMul, Int.reduceNeg, Int.reduceToNat, reduceCtorEq], by simp only [↓STEP, go_sem, ↓reduceIte, Nat.reduceEqDiff, Nat.reduceLeDiff, Nat.reduceLT, Nat.reduceAdd, Nat.reduceSub, Nat.reduceMul, Int.reduceLT, Int.reduceLE, Int.reduceEq, Int.reduceAdd, Int.reduceSub, Int.reduceMul, Int.reduceNeg, Int.reduceToNat, reduceCtorEq], by simp only [↓STEP, go_sem, ↓reduceIte, Nat.reduceEqDiff, Nat.reduceLeDiff, Nat.reduceLT, Nat.reduceAdd, Nat.reduceSub, Nat.reduceMul, Int.reduceLT, Int.reduceLE, Int.reduceEq, Int.reduceAdd, Int.reduceSub, Int.reduceMul, Int.reduceNeg, Int.reduceToNat, reduceCtorEq], by simp only [↓STEP, go_sem, ↓reduceIte, Nat.reduceEqDiff, Nat.reduceLeDiff, Nat.reduceLT, Nat.reduceAdd, Nat.reduceSub, Nat.reduceMul, Int.reduceLT, Int.reduceLE, Int.reduceEq, Int.reduceAdd, Int.reduceSub, Int.reduceMul, Int.reduceNeg, Int.reduceToNat, reduceCtorEq], by simp only [↓STEP, go_sem, ↓reduceIte, Nat.reduceEqDiff, Nat.reduceLeDiff, Nat.reduceLT, Nat.reduceAdd, Nat.reduceSub, Nat.reduceMul, Int.reduceLT, Int.reduceLE, Int.reduceEq, Int.reduceAdd, Int.reduceSub, Int.reduceMul, Int.reduceNeg, Int.reduceToNat, reduceCtorEq], by simp only [↓STEP, go_sem, ↓reduceIte, Nat.reduceEqDiff, Nat.reduceLeDiff, Nat.reduceLT, Nat.reduceAdd, Nat.reduceSub, Nat.reduceMul, Int.reduceLT, Int.reduceLE, Int.reduceEq, Int.reduceAdd, Int.reduceSub, Int.reduceMul, Int.reduceNeg, Int.reduceToNat, reduceCtorEq]⟩
  · simp only [↓STEP, go_sem, ↓reduceIte, Nat.reduceEqDiff, Nat.reduceLeDiff, Nat.reduceLT, Nat.reduceAdd, Nat.reduceSub, Nat.reduceMul, Int.reduceLT, Int.reduceLE, Int.reduceEq, Int.reduceAdd, Int.reduceSub, Int.reduceMul, Int.reduceNeg, Int.reduceToNat, reduceCtorEq, xb, xl, xl2, xm, xm2, xConst_eq, gList_neg hr, gMay_eq]
    refine wpA_loop ?_
    simp only [↓STEP, go_sem, ↓reduceIte, Nat.reduceEqDiff, Nat.reduceLeDiff, Nat.reduceLT, Nat.reduceAdd, Nat.reduceSub, Nat.reduceMul, Int.reduceLT, Int.reduceLE, Int.reduceEq, Int.reduceAdd, Int.reduceSub, Int.reduceMul, Int.reduceNeg, Int.reduceToNat, reduceCtorEq]
end Am
