/- The law FieldParts, over what the functions of the layer 'field' answer. -/
import Derived.Test.YtibmhhdgcbaofaaDoorField4
namespace Am
set_option linter.unusedVariables false
set_option linter.unusedSimpArgs false
set_option maxRecDepth 20000
set_option maxHeartbeats 8000000
variable {pr : Prog}

theorem containsAny_ok {k : Nat} (hw : pr.ext k = some gIA) : OkF pr (c_strings_ContainsAny k) gCA := by
  intro as h v h' hg
  unfold gCA at hg
  split at hg
  · rename_i l cs
    split at hg
    · rename_i hcs
      obtain ⟨rfl, hmax⟩ := hcs
      cases hg
      have hc := @wpCall_ext pr k _ hw
      have hx : gIA [.s l, .s [0, 10, 13]] h = some (.i .i64 (anyAns l), h) := by simp only [gIA]; rw [if_pos ⟨trivial, hmax⟩]
      unfold wpF c_strings_ContainsAny
      refine ⟨by simp, ?_⟩
      simp only [↓STEP, go_sem, ↓reduceIte, Nat.reduceEqDiff, Nat.reduceLeDiff, Nat.reduceLT, Nat.reduceAdd, Nat.reduceSub, Nat.reduceMul, Int.reduceLT, Int.reduceLE, Int.reduceEq, Int.reduceAdd, Int.reduceSub, Int.reduceMul, Int.reduceNeg, Int.reduceToNat, reduceCtorEq, hc, hx]
      exact Abs.eq (by rw [anyAns_nonneg]) rfl
    · cases hg
  · cases hg

def edgeOk (l : List UInt8) (i : Nat) (c : UInt8) : Prop := bad3 c = false ∧ ((i = 0 ∨ i + 1 = l.length) → blankB c = false)
def Value3Loop (l : List UInt8) (h : H) (m : Nat) (t : Tm) (g : H) : Prop :=
  ∃ i : Nat, m = l.length - i ∧ i ≤ l.length ∧ t.v 3 = .i .i64 i ∧ t.v 0 = .s l ∧ g = h ∧ ∀ j (hj : j < l.length), j < i → edgeOk l j l[j]
theorem valueB_bad {l : List UInt8} {i : Nat} (hi : i < l.length) (hb : bad3 l[i] = true) : valueB l = false := by
  have : l.any bad3 = true := List.any_eq_true.2 ⟨l[i], List.getElem_mem hi, hb⟩
  unfold valueB; rw [this]; simp
theorem valueB_edge {l : List UInt8} {i : Nat} (hi : i < l.length) (he : i = 0 ∨ i + 1 = l.length) (hb : blankB l[i] = true) : valueB l = false := by
  unfold valueB
  cases l with
  | nil => simp at hi
  | cons c cs =>
    rcases he with rfl | he
    · have : blankB c = true := hb
      simp [this]
    · have hlast : (c :: cs).getLastD 0 = (c :: cs)[i] := by
        rw [List.getLastD_eq_getLast?, List.getLast?_eq_getElem?, ← he]
        simp only [Nat.add_sub_cancel]
        rw [List.getElem?_eq_getElem hi]; rfl
      rw [hlast, hb]; simp
theorem valueB_good {l : List UInt8} (hl : l.length ≤ 65536) (h : ∀ j (hj : j < l.length), edgeOk l j l[j]) : valueB l = true := by
  have h1 : l.any bad3 = false := List.any_eq_false.2 (fun x hx => by
    obtain ⟨j, hj, rfl⟩ := List.getElem_of_mem hx
    simp [(h j hj).1])
  unfold valueB
  rw [h1, decide_eq_true hl]
  cases l with
  | nil => rfl
  | cons c cs =>
    have a := (h 0 (by simp)).2 (.inl rfl)
    have b := (h cs.length (by simp)).2 (.inr (by simp))
    have hlast : (c :: cs).getLastD 0 = (c :: cs)[cs.length] := by
      rw [List.getLastD_eq_getLast?, List.getLast?_eq_getElem?]
      simp only [List.length_cons, Nat.add_sub_cancel]
      rw [List.getElem?_eq_getElem (by simp)]; rfl
    rw [hlast, b]
    have a' : blankB c = false := a
    simp [a']

theorem value3_ok : OkF pr c_isthmusref3_Value gValue := by
  intro as h v h' hg
  unfold gValue at hg
  split at hg
  · rename_i l
    cases hg
    unfold wpF c_isthmusref3_Value
    refine ⟨by simp, ?_⟩
    by_cases hl : (65536 : Int) < l.length
    · simp only [↓STEP, go_sem, ↓reduceIte, Nat.reduceEqDiff, Nat.reduceLeDiff, Nat.reduceLT, Nat.reduceAdd, Nat.reduceSub, Nat.reduceMul, Int.reduceLT, Int.reduceLE, Int.reduceEq, Int.reduceAdd, Int.reduceSub, Int.reduceMul, Int.reduceNeg, Int.reduceToNat, reduceCtorEq, hl]
      exact Abs.eq (by unfold valueB; rw [decide_eq_false (by omega)]; simp) rfl
    · have hl' : l.length ≤ 65536 := by omega
      simp only [↓STEP, go_sem, ↓reduceIte, Nat.reduceEqDiff, Nat.reduceLeDiff, Nat.reduceLT, Nat.reduceAdd, Nat.reduceSub, Nat.reduceMul, Int.reduceLT, Int.reduceLE, Int.reduceEq, Int.reduceAdd, Int.reduceSub, Int.reduceMul, Int.reduceNeg, Int.reduceToNat, reduceCtorEq, hl]
      refine wpA_loop_inv (Value3Loop l h) ?_ (m := l.length) ?_
      · rintro m t g ⟨i, rfl, hi, e3, e0, rfl, hall⟩
        by_cases hlt : i < l.length
        · have hlt' : (i : Int) < (l.length : Int) := by omega
          have hget : l[i]? = some l[i] := List.getElem?_eq_getElem hlt
          have hwr : Go.IntKind.wrap .i64 ((i : Int) + 1) = (i : Int) + 1 := wrap_i64 (by omega) (by omega)
          have hw1 : Go.IntKind.wrap .i64 ((l.length : Int) - 1) = (l.length : Int) - 1 := wrap_i64 (by omega) (by omega)
          have good : edgeOk l i l[i] → ∀ t' : Tm, t'.v 3 = .i .i64 ((i : Int) + 1) → t'.v 0 = t.v 0 → ∃ m', m' < l.length - i ∧ Value3Loop l g m' t' g := fun hn t' h1 h3 =>
            ⟨_, by omega, i + 1, rfl, by omega, by rw [h1]; simp, by rw [h3, e0], rfl, fun j hj h2 => by
              by_cases hji : j = i
              · subst hji; exact hn
              · exact hall j hj (by omega)⟩
          by_cases a : (l[i].toNat : Int) = 0
          · simp only [↓STEP, go_sem, ↓reduceIte, Nat.reduceEqDiff, Nat.reduceLeDiff, Nat.reduceLT, Nat.reduceAdd, Nat.reduceSub, Nat.reduceMul, Int.reduceLT, Int.reduceLE, Int.reduceEq, Int.reduceAdd, Int.reduceSub, Int.reduceMul, Int.reduceNeg, Int.reduceToNat, reduceCtorEq, e3, e0, hlt', hget, a]
            exact Abs.eq (by rw [valueB_bad hlt (by simp [bad3, a])]) rfl
          · by_cases b : (l[i].toNat : Int) = 10
            · simp only [↓STEP, go_sem, ↓reduceIte, Nat.reduceEqDiff, Nat.reduceLeDiff, Nat.reduceLT, Nat.reduceAdd, Nat.reduceSub, Nat.reduceMul, Int.reduceLT, Int.reduceLE, Int.reduceEq, Int.reduceAdd, Int.reduceSub, Int.reduceMul, Int.reduceNeg, Int.reduceToNat, reduceCtorEq, e3, e0, hlt', hget, a, b]
              exact Abs.eq (by rw [valueB_bad hlt (by simp [bad3, b])]) rfl
            · by_cases c : (l[i].toNat : Int) = 13
              · simp only [↓STEP, go_sem, ↓reduceIte, Nat.reduceEqDiff, Nat.reduceLeDiff, Nat.reduceLT, Nat.reduceAdd, Nat.reduceSub, Nat.reduceMul, Int.reduceLT, Int.reduceLE, Int.reduceEq, Int.reduceAdd, Int.reduceSub, Int.reduceMul, Int.reduceNeg, Int.reduceToNat, reduceCtorEq, e3, e0, hlt', hget, a, b, c]
                exact Abs.eq (by rw [valueB_bad hlt (by simp [bad3, c])]) rfl
              · have nb : bad3 l[i] = false := by simp only [bad3, Bool.or_eq_false_iff, decide_eq_false_iff_not]; exact ⟨⟨a, b⟩, c⟩
                by_cases z : (i : Int) = 0
                · have z0 := eq_true z
                  by_cases s1 : (l[i].toNat : Int) = 32
                  · simp only [↓STEP, go_sem, ↓reduceIte, Nat.reduceEqDiff, Nat.reduceLeDiff, Nat.reduceLT, Nat.reduceAdd, Nat.reduceSub, Nat.reduceMul, Int.reduceLT, Int.reduceLE, Int.reduceEq, Int.reduceAdd, Int.reduceSub, Int.reduceMul, Int.reduceNeg, Int.reduceToNat, reduceCtorEq, e3, e0, hlt', hget, a, b, c, z0, s1]
                    exact Abs.eq (by rw [valueB_edge hlt (.inl (by omega)) (by simp [blankB, s1])]) rfl
                  · by_cases s2 : (l[i].toNat : Int) = 9
                    · simp only [↓STEP, go_sem, ↓reduceIte, Nat.reduceEqDiff, Nat.reduceLeDiff, Nat.reduceLT, Nat.reduceAdd, Nat.reduceSub, Nat.reduceMul, Int.reduceLT, Int.reduceLE, Int.reduceEq, Int.reduceAdd, Int.reduceSub, Int.reduceMul, Int.reduceNeg, Int.reduceToNat, reduceCtorEq, e3, e0, hlt', hget, a, b, c, z0, s1, s2]
                      exact Abs.eq (by rw [valueB_edge hlt (.inl (by omega)) (by simp [blankB, s2])]) rfl
                    · have nbl : blankB l[i] = false := by simp [blankB, s1, s2]
                      simp only [↓STEP, go_sem, ↓reduceIte, Nat.reduceEqDiff, Nat.reduceLeDiff, Nat.reduceLT, Nat.reduceAdd, Nat.reduceSub, Nat.reduceMul, Int.reduceLT, Int.reduceLE, Int.reduceEq, Int.reduceAdd, Int.reduceSub, Int.reduceMul, Int.reduceNeg, Int.reduceToNat, reduceCtorEq, e3, e0, hlt', hget, a, b, c, z0, s1, s2, hwr]
                      exact good ⟨nb, fun _ => nbl⟩ _ (by simp [v_pd]) (by simp [v_pd])
                · by_cases y : (i : Int) = (l.length : Int) - 1
                  · have y0 := eq_true y
                    by_cases s1 : (l[i].toNat : Int) = 32
                    · simp only [↓STEP, go_sem, ↓reduceIte, Nat.reduceEqDiff, Nat.reduceLeDiff, Nat.reduceLT, Nat.reduceAdd, Nat.reduceSub, Nat.reduceMul, Int.reduceLT, Int.reduceLE, Int.reduceEq, Int.reduceAdd, Int.reduceSub, Int.reduceMul, Int.reduceNeg, Int.reduceToNat, reduceCtorEq, e3, e0, hlt', hget, a, b, c, z, hw1, y0, s1]
                      exact Abs.eq (by rw [valueB_edge hlt (.inr (by omega)) (by simp [blankB, s1])]) rfl
                    · by_cases s2 : (l[i].toNat : Int) = 9
                      · simp only [↓STEP, go_sem, ↓reduceIte, Nat.reduceEqDiff, Nat.reduceLeDiff, Nat.reduceLT, Nat.reduceAdd, Nat.reduceSub, Nat.reduceMul, Int.reduceLT, Int.reduceLE, Int.reduceEq, Int.reduceAdd, Int.reduceSub, Int.reduceMul, Int.reduceNeg, Int.reduceToNat, reduceCtorEq, e3, e0, hlt', hget, a, b, c, z, hw1, y0, s1, s2]
                        exact Abs.eq (by rw [valueB_edge hlt (.inr (by omega)) (by simp [blankB, s2])]) rfl
                      · have nbl : blankB l[i] = false := by simp [blankB, s1, s2]
                        simp only [↓STEP, go_sem, ↓reduceIte, Nat.reduceEqDiff, Nat.reduceLeDiff, Nat.reduceLT, Nat.reduceAdd, Nat.reduceSub, Nat.reduceMul, Int.reduceLT, Int.reduceLE, Int.reduceEq, Int.reduceAdd, Int.reduceSub, Int.reduceMul, Int.reduceNeg, Int.reduceToNat, reduceCtorEq, e3, e0, hlt', hget, a, b, c, z, hw1, y0, s1, s2, hwr]
                        exact good ⟨nb, fun _ => nbl⟩ _ (by simp [v_pd]) (by simp [v_pd])
                  · simp only [↓STEP, go_sem, ↓reduceIte, Nat.reduceEqDiff, Nat.reduceLeDiff, Nat.reduceLT, Nat.reduceAdd, Nat.reduceSub, Nat.reduceMul, Int.reduceLT, Int.reduceLE, Int.reduceEq, Int.reduceAdd, Int.reduceSub, Int.reduceMul, Int.reduceNeg, Int.reduceToNat, reduceCtorEq, e3, e0, hlt', hget, a, b, c, z, hw1, y, hwr]
                    exact good ⟨nb, fun hh => by omega⟩ _ (by simp [v_pd]) (by simp [v_pd])
        · have hlt' : ¬ (i : Int) < (l.length : Int) := by omega
          simp only [↓STEP, go_sem, ↓reduceIte, Nat.reduceEqDiff, Nat.reduceLeDiff, Nat.reduceLT, Nat.reduceAdd, Nat.reduceSub, Nat.reduceMul, Int.reduceLT, Int.reduceLE, Int.reduceEq, Int.reduceAdd, Int.reduceSub, Int.reduceMul, Int.reduceNeg, Int.reduceToNat, reduceCtorEq, e3, e0, hlt']
          exact Abs.eq (by rw [valueB_good hl' (fun j hj => hall j hj (by omega))]) rfl
      · exact ⟨0, rfl, Nat.zero_le _, by simp only [↓STEP, go_sem, ↓reduceIte, Nat.reduceEqDiff, Nat.reduceLeDiff, Nat.reduceLT, Nat.reduceAdd, Nat.reduceSub, Nat.reduceMul, Int.reduceLT, Int.reduceLE, Int.reduceEq, Int.reduceAdd, Int.reduceSub, Int.reduceMul, Int.reduceNeg, Int.reduceToNat, reduceCtorEq], by simp only [↓STEP, go_sem, ↓reduceIte, Nat.reduceEqDiff, Nat.reduceLeDiff, Nat.reduceLT, Nat.reduceAdd, Nat.reduceSub, Nat.reduceMul, Int.reduceLT, Int.reduceLE, Int.reduceEq, Int.reduceAdd, Int.reduceSub, Int.reduceMul, Int.reduceNeg, Int.reduceToNat, reduceCtorEq], rfl, fun j hj h => by omega⟩
  · cases hg

theorem xConst_eq' (v : V) (h : H) : xConst v [] h = some (v, h) := rfl
theorem fieldParts_law {kb kn kn3 kv kv3 : Nat} (hb : pr.ext kb = some (xConst (.b true))) (hn : pr.ext kn = some gName) (hn3 : pr.ext kn3 = some gName) (hv : pr.ext kv = some gValue) (hv3 : pr.ext kv3 = some gValue)
    (l : List UInt8) (h : H) : wpF pr (c_isthmuslaw3_FieldParts kb kn kn3 kv kv3) [.s l] h (fun v _ => v = .b true) := by
  have xb := @wpCall_ext pr kb _ hb
  have xn := @wpCall_ext pr kn _ hn
  have xn3 := @wpCall_ext pr kn3 _ hn3
  have xv := @wpCall_ext pr kv _ hv
  have xv3 := @wpCall_ext pr kv3 _ hv3
  unfold wpF c_isthmuslaw3_FieldParts
  refine ⟨by simp, ?_⟩
  have e : ∀ b : Bool, (b == b) = true := fun b => by simp
  simp only [↓STEP, go_sem, ↓reduceIte, Nat.reduceEqDiff, Nat.reduceLeDiff, Nat.reduceLT, Nat.reduceAdd, Nat.reduceSub, Nat.reduceMul, Int.reduceLT, Int.reduceLE, Int.reduceEq, Int.reduceAdd, Int.reduceSub, Int.reduceMul, Int.reduceNeg, Int.reduceToNat, reduceCtorEq, xb, xn, xn3, xv, xv3, xConst_eq', gName_eq, gValue_eq, e]
end Am
