/- What the layer 'field' finds in the static table. -/
import Derived.Test.YtmgkdkbmlfciaaaField20
namespace Am
set_option linter.unusedVariables false
set_option linter.unusedSimpArgs false
set_option maxRecDepth 20000
set_option maxHeartbeats 8000000
variable {pr : Prog}

def gAll (kA : Nat) (as : List V) (h : H) : Option (V × H) :=
  match as with
  | [] => some (.f (.fn kA) [], h)
  | _ => none
theorem all_ok {kA : Nat} : OkF pr (c_field_All kA) (gAll kA) := by
  intro as h v h' hg
  unfold gAll at hg
  split at hg
  · cases hg
    unfold wpF c_field_All
    refine ⟨by simp, ?_⟩
    simp only [↓STEP, go_sem, ↓reduceIte, Nat.reduceEqDiff, Nat.reduceLeDiff, Nat.reduceLT, Nat.reduceAdd, Nat.reduceSub, Nat.reduceMul, Int.reduceLT, Int.reduceLE, Int.reduceEq, Int.reduceAdd, Int.reduceSub, Int.reduceMul, Int.reduceNeg, Int.reduceToNat, reduceCtorEq]
    exact Abs.refl
  · cases hg
def resF (o : Int) (r : Int × Int) : Int × Int := (r.1, if o = 0 then r.2 else o)
def FInv (h : H) (nm vl : List UInt8) (LS : LoopSt) (j : Nat) (g : H) : Prop :=
  ∃ (o : Int), h.nx + 4 < g.nx ∧ g.get h.nx = some (.rows 1 [[.s nm]] false) ∧ g.get (h.nx + 1) = some (.rows 1 [[.s vl]] false) ∧ g.get (h.nx + 2) = some (.rows 1 [[.i .i64 0]] false) ∧ g.get (h.nx + 3) = some (.rows 1 [[.i .i64 o]] false) ∧
    g.get (h.nx + 4) = some (.loop LS) ∧ fdF nm vl 1 tabF = resF o (fdF nm vl ((j : Int) + 1) (tabF.drop j)) ∧ Kept h g
def FDone (h : H) (nm vl : List UInt8) (g : H) : Prop :=
  ∃ L, h.nx + 4 < g.nx ∧ g.get (h.nx + 2) = some (.rows 1 [[.i .i64 (fdF nm vl 1 tabF).1]] false) ∧ g.get (h.nx + 3) = some (.rows 1 [[.i .i64 (fdF nm vl 1 tabF).2]] false) ∧
    g.get (h.nx + 4) = some (.loop L) ∧ L.st = .done ∧ L.pend = .exit 0 ∧ Kept h g
theorem find_ok {ks kc kA kl : Nat} (hs : pr.ext ks = some (gTab tabS)) (hc : pr.ext kc = some gCut) (hA : pr.ext kA = none) (hfn : pr.fn kA = some (c_field_All_1 ks kc)) (hl : pr.ext kl = some (gAll kA)) : OkF pr (c_field_Find kl) gFind := by
  intro as h v h' hg
  unfold gFind at hg
  split at hg
  · rename_i nm vl
    cases hg
    have xl := @wpCall_ext pr kl _ hl
    have el : ∀ g, gAll kA [] g = some (.f (.fn kA) [], g) := fun g => rfl
    unfold wpF c_field_Find
    refine ⟨by simp, ?_⟩
    simp only [↓STEP, go_sem, ↓reduceIte, Nat.reduceEqDiff, Nat.reduceLeDiff, Nat.reduceLT, Nat.reduceAdd, Nat.reduceSub, Nat.reduceMul, Int.reduceLT, Int.reduceLE, Int.reduceEq, Int.reduceAdd, Int.reduceSub, Int.reduceMul, Int.reduceNeg, Int.reduceToNat, reduceCtorEq, xl, el]
    refine wpA_rfn rfl (k := kA) (caps := []) ?_ ?_
    · simp only [↓STEP, go_sem, ↓reduceIte, Nat.reduceEqDiff, Nat.reduceLeDiff, Nat.reduceLT, Nat.reduceAdd, Nat.reduceSub, Nat.reduceMul, Int.reduceLT, Int.reduceLE, Int.reduceEq, Int.reduceAdd, Int.reduceSub, Int.reduceMul, Int.reduceNeg, Int.reduceToNat, reduceCtorEq]
    · simp only [↓STEP, go_sem, ↓reduceIte, Nat.reduceEqDiff, Nat.reduceLeDiff, Nat.reduceLT, Nat.reduceAdd, Nat.reduceSub, Nat.reduceMul, Int.reduceLT, Int.reduceLE, Int.reduceEq, Int.reduceAdd, Int.reduceSub, Int.reduceMul, Int.reduceNeg, Int.reduceToNat, reduceCtorEq]
      generalize hLS : LoopSt.mk _ _ _ _ _ _ _ = LS
      have q2 : LS.tm.v 2 = .p (some (h.nx, 0, 0)) := by rw [← hLS]; simp only [↓STEP, go_sem, ↓reduceIte, Nat.reduceEqDiff, Nat.reduceLeDiff, Nat.reduceLT, Nat.reduceAdd, Nat.reduceSub, Nat.reduceMul, Int.reduceLT, Int.reduceLE, Int.reduceEq, Int.reduceAdd, Int.reduceSub, Int.reduceMul, Int.reduceNeg, Int.reduceToNat, reduceCtorEq]
      have q3 : LS.tm.v 3 = .p (some (h.nx + 1, 0, 0)) := by rw [← hLS]; simp only [↓STEP, go_sem, ↓reduceIte, Nat.reduceEqDiff, Nat.reduceLeDiff, Nat.reduceLT, Nat.reduceAdd, Nat.reduceSub, Nat.reduceMul, Int.reduceLT, Int.reduceLE, Int.reduceEq, Int.reduceAdd, Int.reduceSub, Int.reduceMul, Int.reduceNeg, Int.reduceToNat, reduceCtorEq]
      have q6 : LS.tm.v 6 = .p (some (h.nx + 2, 0, 0)) := by rw [← hLS]; simp only [↓STEP, go_sem, ↓reduceIte, Nat.reduceEqDiff, Nat.reduceLeDiff, Nat.reduceLT, Nat.reduceAdd, Nat.reduceSub, Nat.reduceMul, Int.reduceLT, Int.reduceLE, Int.reduceEq, Int.reduceAdd, Int.reduceSub, Int.reduceMul, Int.reduceNeg, Int.reduceToNat, reduceCtorEq]
      have q7 : LS.tm.v 7 = .p (some (h.nx + 3, 0, 0)) := by rw [← hLS]; simp only [↓STEP, go_sem, ↓reduceIte, Nat.reduceEqDiff, Nat.reduceLeDiff, Nat.reduceLT, Nat.reduceAdd, Nat.reduceSub, Nat.reduceMul, Int.reduceLT, Int.reduceLE, Int.reduceEq, Int.reduceAdd, Int.reduceSub, Int.reduceMul, Int.reduceNeg, Int.reduceToNat, reduceCtorEq]
      have qs := congrArg LoopSt.st hLS
      have qpd : LS.pend = .normal := (congrArg LoopSt.pend hLS).symm
      have qLS : LoopSt.mk LoopState.ready Ex.normal LS.tm LS.nt LS.params LS.assign LS.body = LS := by rw [← hLS]
      simp only at qs
      refine Runs.mono (all1_runs hs hc hA hfn (Inv := FInv h nm vl LS) (Done := FDone h nm vl) (L := h.nx + 4) ?_ ?_ ?_ ?_) ?_
      · rintro j g g' ⟨o, a0, a1, a2, a3, a4, a5, a6, a7⟩ hk
        exact ⟨o, by have := hk.1; omega, by rw [hk.2 _ (by omega)]; exact a1, by rw [hk.2 _ (by omega)]; exact a2, by rw [hk.2 _ (by omega)]; exact a3, by rw [hk.2 _ (by omega)]; exact a4, by rw [hk.2 _ (by omega)]; exact a5, a6, a7.trans hk⟩
      · simp only [↓STEP, go_sem, ↓reduceIte, Nat.reduceEqDiff, Nat.reduceLeDiff, Nat.reduceLT, Nat.reduceAdd, Nat.reduceSub, Nat.reduceMul, Int.reduceLT, Int.reduceLE, Int.reduceEq, Int.reduceAdd, Int.reduceSub, Int.reduceMul, Int.reduceNeg, Int.reduceToNat, reduceCtorEq]; omega
      · refine ⟨0, ?_, ?_, ?_, ?_, ?_, ?_, ?_, ?_⟩
        all_goals (try simp only [↓STEP, go_sem, ↓reduceIte, Nat.reduceEqDiff, Nat.reduceLeDiff, Nat.reduceLT, Nat.reduceAdd, Nat.reduceSub, Nat.reduceMul, Int.reduceLT, Int.reduceLE, Int.reduceEq, Int.reduceAdd, Int.reduceSub, Int.reduceMul, Int.reduceNeg, Int.reduceToNat, reduceCtorEq])
        · omega
        · simp [resF]
        · (repeat (first | exact Kept.refl | apply Kept.push | refine Kept.kill ?_ (by omega) | refine Kept.set ?_ (by omega)))
      · rintro j f g hj hf ⟨o, a0, a1, a2, a3, a4, a5, a6, a7⟩
        have qa := congrArg LoopSt.assign hLS
        have qb := congrArg LoopSt.body hLS
        have qp := congrArg LoopSt.params hLS
        simp only at qa qb qp
        refine runs_yl a5 (by rw [← qp]; rfl) ?_
        rw [← qa, ← qb, ← qp]
        have n0 : h.nx ≠ g.nx := by omega
        have n1 : h.nx + 1 ≠ g.nx := by omega
        have n2 : h.nx + 2 ≠ g.nx := by omega
        have n3 : h.nx + 3 ≠ g.nx := by omega
        have n4 : h.nx + 4 ≠ g.nx := by omega
        have n5 : g.nx ≠ h.nx + 4 := by omega
        have n6 : g.nx ≠ h.nx + 3 := by omega
        have n7 : g.nx ≠ h.nx + 2 := by omega
        have hd : tabF.drop j = f :: tabF.drop (j + 1) := by
          have hl : j < tabF.length := hj
          rw [List.drop_eq_getElem_cons hl]
          congr 1
          rw [List.getElem?_eq_getElem hl] at hf
          exact Option.some.inj hf
        rw [hd, fdF] at a6
        have hj1 : (((j + 1 : Nat) : Int) + 1) = (j : Int) + 1 + 1 := by omega
        have hjn : (j : Int) + 1 ≠ 0 := by omega
        have hkk : ∀ (g' : H), Kept h g → h.nx ≤ g.nx → g.nx ≤ g'.nx → (∀ b, b < g.nx → b ≠ h.nx + 4 → b ≠ h.nx + 3 → b ≠ h.nx + 2 → g'.get b = g.get b) → Kept h g' := fun g' k1 k2 k3 k4 => ⟨by have := k1.1; omega, fun b hb => by rw [k4 b (by omega) (by omega) (by omega) (by omega)]; exact k1.2 b hb⟩
        have c3' : ∀ (P : Prop) [Decidable P], True := fun _ _ => trivial
        by_cases c1 : f.n = nm
        · rw [if_pos c1] at a6
          have c1' := eq_true c1
          by_cases c2 : f.v = vl
          · rw [if_pos c2] at a6
            have c2' := eq_true c2
            by_cases c3 : o = 0
            · have c3' := eq_true c3
              simp only [↓STEP, go_sem, ↓reduceIte, Nat.reduceEqDiff, Nat.reduceLeDiff, Nat.reduceLT, Nat.reduceAdd, Nat.reduceSub, Nat.reduceMul, Int.reduceLT, Int.reduceLE, Int.reduceEq, Int.reduceAdd, Int.reduceSub, Int.reduceMul, Int.reduceNeg, Int.reduceToNat, reduceCtorEq, stParams, Tm.v_st, Fd.row, n0, n1, n2, n3, n4, n5, n6, n7, q2, q3, q6, q7, a1, a2, a3, a4, a5, qs.symm, c1', c2', c3']
              refine ⟨LS, rfl, qs.symm, _, rfl, ⟨by simp only [↓STEP, go_sem, ↓reduceIte, Nat.reduceEqDiff, Nat.reduceLeDiff, Nat.reduceLT, Nat.reduceAdd, Nat.reduceSub, Nat.reduceMul, Int.reduceLT, Int.reduceLE, Int.reduceEq, Int.reduceAdd, Int.reduceSub, Int.reduceMul, Int.reduceNeg, Int.reduceToNat, reduceCtorEq]; try omega, fun b hb1 hb2 => ?_⟩, ?_⟩
              · simp only [↓STEP, go_sem, ↓reduceIte, Nat.reduceEqDiff, Nat.reduceLeDiff, Nat.reduceLT, Nat.reduceAdd, Nat.reduceSub, Nat.reduceMul, Int.reduceLT, Int.reduceLE, Int.reduceEq, Int.reduceAdd, Int.reduceSub, Int.reduceMul, Int.reduceNeg, Int.reduceToNat, reduceCtorEq, show b ≠ h.nx + 4 by omega, show b ≠ h.nx + 3 by omega, show b ≠ h.nx + 2 by omega, show b ≠ g.nx by omega]
              · refine ⟨_, by simp only [↓STEP, go_sem, ↓reduceIte, Nat.reduceEqDiff, Nat.reduceLeDiff, Nat.reduceLT, Nat.reduceAdd, Nat.reduceSub, Nat.reduceMul, Int.reduceLT, Int.reduceLE, Int.reduceEq, Int.reduceAdd, Int.reduceSub, Int.reduceMul, Int.reduceNeg, Int.reduceToNat, reduceCtorEq]; try omega, ?_, ?_, by simp only [↓STEP, go_sem, ↓reduceIte, Nat.reduceEqDiff, Nat.reduceLeDiff, Nat.reduceLT, Nat.reduceAdd, Nat.reduceSub, Nat.reduceMul, Int.reduceLT, Int.reduceLE, Int.reduceEq, Int.reduceAdd, Int.reduceSub, Int.reduceMul, Int.reduceNeg, Int.reduceToNat, reduceCtorEq]; rfl, rfl, rfl, ?_⟩
                · simp only [↓STEP, go_sem, ↓reduceIte, Nat.reduceEqDiff, Nat.reduceLeDiff, Nat.reduceLT, Nat.reduceAdd, Nat.reduceSub, Nat.reduceMul, Int.reduceLT, Int.reduceLE, Int.reduceEq, Int.reduceAdd, Int.reduceSub, Int.reduceMul, Int.reduceNeg, Int.reduceToNat, reduceCtorEq, n2, a3, a6, resF, c3, hjn]
                · simp only [↓STEP, go_sem, ↓reduceIte, Nat.reduceEqDiff, Nat.reduceLeDiff, Nat.reduceLT, Nat.reduceAdd, Nat.reduceSub, Nat.reduceMul, Int.reduceLT, Int.reduceLE, Int.reduceEq, Int.reduceAdd, Int.reduceSub, Int.reduceMul, Int.reduceNeg, Int.reduceToNat, reduceCtorEq, n3, a4, a6, resF, c3, hjn]
                · refine hkk _ a7 a7.1 (by simp only [↓STEP, go_sem, ↓reduceIte, Nat.reduceEqDiff, Nat.reduceLeDiff, Nat.reduceLT, Nat.reduceAdd, Nat.reduceSub, Nat.reduceMul, Int.reduceLT, Int.reduceLE, Int.reduceEq, Int.reduceAdd, Int.reduceSub, Int.reduceMul, Int.reduceNeg, Int.reduceToNat, reduceCtorEq]; try omega) fun b h1 h2 h3 h4 => ?_
                  simp only [↓STEP, go_sem, ↓reduceIte, Nat.reduceEqDiff, Nat.reduceLeDiff, Nat.reduceLT, Nat.reduceAdd, Nat.reduceSub, Nat.reduceMul, Int.reduceLT, Int.reduceLE, Int.reduceEq, Int.reduceAdd, Int.reduceSub, Int.reduceMul, Int.reduceNeg, Int.reduceToNat, reduceCtorEq, h2, h3, h4, show b ≠ g.nx by omega]
            · have c3' := c3
              simp only [↓STEP, go_sem, ↓reduceIte, Nat.reduceEqDiff, Nat.reduceLeDiff, Nat.reduceLT, Nat.reduceAdd, Nat.reduceSub, Nat.reduceMul, Int.reduceLT, Int.reduceLE, Int.reduceEq, Int.reduceAdd, Int.reduceSub, Int.reduceMul, Int.reduceNeg, Int.reduceToNat, reduceCtorEq, stParams, Tm.v_st, Fd.row, n0, n1, n2, n3, n4, n5, n6, n7, q2, q3, q6, q7, a1, a2, a3, a4, a5, qs.symm, c1', c2', c3]
              refine ⟨LS, rfl, qs.symm, _, rfl, ⟨by simp only [↓STEP, go_sem, ↓reduceIte, Nat.reduceEqDiff, Nat.reduceLeDiff, Nat.reduceLT, Nat.reduceAdd, Nat.reduceSub, Nat.reduceMul, Int.reduceLT, Int.reduceLE, Int.reduceEq, Int.reduceAdd, Int.reduceSub, Int.reduceMul, Int.reduceNeg, Int.reduceToNat, reduceCtorEq]; try omega, fun b hb1 hb2 => ?_⟩, ?_⟩
              · simp only [↓STEP, go_sem, ↓reduceIte, Nat.reduceEqDiff, Nat.reduceLeDiff, Nat.reduceLT, Nat.reduceAdd, Nat.reduceSub, Nat.reduceMul, Int.reduceLT, Int.reduceLE, Int.reduceEq, Int.reduceAdd, Int.reduceSub, Int.reduceMul, Int.reduceNeg, Int.reduceToNat, reduceCtorEq, show b ≠ h.nx + 4 by omega, show b ≠ h.nx + 3 by omega, show b ≠ h.nx + 2 by omega, show b ≠ g.nx by omega]
              · refine ⟨_, by simp only [↓STEP, go_sem, ↓reduceIte, Nat.reduceEqDiff, Nat.reduceLeDiff, Nat.reduceLT, Nat.reduceAdd, Nat.reduceSub, Nat.reduceMul, Int.reduceLT, Int.reduceLE, Int.reduceEq, Int.reduceAdd, Int.reduceSub, Int.reduceMul, Int.reduceNeg, Int.reduceToNat, reduceCtorEq]; try omega, ?_, ?_, by simp only [↓STEP, go_sem, ↓reduceIte, Nat.reduceEqDiff, Nat.reduceLeDiff, Nat.reduceLT, Nat.reduceAdd, Nat.reduceSub, Nat.reduceMul, Int.reduceLT, Int.reduceLE, Int.reduceEq, Int.reduceAdd, Int.reduceSub, Int.reduceMul, Int.reduceNeg, Int.reduceToNat, reduceCtorEq]; rfl, rfl, rfl, ?_⟩
                · simp only [↓STEP, go_sem, ↓reduceIte, Nat.reduceEqDiff, Nat.reduceLeDiff, Nat.reduceLT, Nat.reduceAdd, Nat.reduceSub, Nat.reduceMul, Int.reduceLT, Int.reduceLE, Int.reduceEq, Int.reduceAdd, Int.reduceSub, Int.reduceMul, Int.reduceNeg, Int.reduceToNat, reduceCtorEq, n2, a3, a6, resF, c3, hjn]
                · simp only [↓STEP, go_sem, ↓reduceIte, Nat.reduceEqDiff, Nat.reduceLeDiff, Nat.reduceLT, Nat.reduceAdd, Nat.reduceSub, Nat.reduceMul, Int.reduceLT, Int.reduceLE, Int.reduceEq, Int.reduceAdd, Int.reduceSub, Int.reduceMul, Int.reduceNeg, Int.reduceToNat, reduceCtorEq, n3, a4, a6, resF, c3, hjn]
                · refine hkk _ a7 a7.1 (by simp only [↓STEP, go_sem, ↓reduceIte, Nat.reduceEqDiff, Nat.reduceLeDiff, Nat.reduceLT, Nat.reduceAdd, Nat.reduceSub, Nat.reduceMul, Int.reduceLT, Int.reduceLE, Int.reduceEq, Int.reduceAdd, Int.reduceSub, Int.reduceMul, Int.reduceNeg, Int.reduceToNat, reduceCtorEq]; try omega) fun b h1 h2 h3 h4 => ?_
                  simp only [↓STEP, go_sem, ↓reduceIte, Nat.reduceEqDiff, Nat.reduceLeDiff, Nat.reduceLT, Nat.reduceAdd, Nat.reduceSub, Nat.reduceMul, Int.reduceLT, Int.reduceLE, Int.reduceEq, Int.reduceAdd, Int.reduceSub, Int.reduceMul, Int.reduceNeg, Int.reduceToNat, reduceCtorEq, h2, h3, h4, show b ≠ g.nx by omega]
          · rw [if_neg c2] at a6
            by_cases c3 : o = 0
            · have c3' := eq_true c3
              simp only [↓STEP, go_sem, ↓reduceIte, Nat.reduceEqDiff, Nat.reduceLeDiff, Nat.reduceLT, Nat.reduceAdd, Nat.reduceSub, Nat.reduceMul, Int.reduceLT, Int.reduceLE, Int.reduceEq, Int.reduceAdd, Int.reduceSub, Int.reduceMul, Int.reduceNeg, Int.reduceToNat, reduceCtorEq, stParams, Tm.v_st, Fd.row, n0, n1, n2, n3, n4, n5, n6, n7, q2, q3, q6, q7, a1, a2, a3, a4, a5, qs.symm, c1', c2, c3']
              refine ⟨LS, rfl, qs.symm, _, rfl, ⟨by simp only [↓STEP, go_sem, ↓reduceIte, Nat.reduceEqDiff, Nat.reduceLeDiff, Nat.reduceLT, Nat.reduceAdd, Nat.reduceSub, Nat.reduceMul, Int.reduceLT, Int.reduceLE, Int.reduceEq, Int.reduceAdd, Int.reduceSub, Int.reduceMul, Int.reduceNeg, Int.reduceToNat, reduceCtorEq]; try omega, fun b hb1 hb2 => ?_⟩, ?_⟩
              · simp only [↓STEP, go_sem, ↓reduceIte, Nat.reduceEqDiff, Nat.reduceLeDiff, Nat.reduceLT, Nat.reduceAdd, Nat.reduceSub, Nat.reduceMul, Int.reduceLT, Int.reduceLE, Int.reduceEq, Int.reduceAdd, Int.reduceSub, Int.reduceMul, Int.reduceNeg, Int.reduceToNat, reduceCtorEq, show b ≠ h.nx + 4 by omega, show b ≠ h.nx + 3 by omega, show b ≠ h.nx + 2 by omega, show b ≠ g.nx by omega]
              · refine ⟨(j : Int) + 1, by simp only [↓STEP, go_sem, ↓reduceIte, Nat.reduceEqDiff, Nat.reduceLeDiff, Nat.reduceLT, Nat.reduceAdd, Nat.reduceSub, Nat.reduceMul, Int.reduceLT, Int.reduceLE, Int.reduceEq, Int.reduceAdd, Int.reduceSub, Int.reduceMul, Int.reduceNeg, Int.reduceToNat, reduceCtorEq]; try omega, ?_, ?_, ?_, ?_, ?_, ?_, ?_⟩
                · simp only [↓STEP, go_sem, ↓reduceIte, Nat.reduceEqDiff, Nat.reduceLeDiff, Nat.reduceLT, Nat.reduceAdd, Nat.reduceSub, Nat.reduceMul, Int.reduceLT, Int.reduceLE, Int.reduceEq, Int.reduceAdd, Int.reduceSub, Int.reduceMul, Int.reduceNeg, Int.reduceToNat, reduceCtorEq, n0, a1]
                · simp only [↓STEP, go_sem, ↓reduceIte, Nat.reduceEqDiff, Nat.reduceLeDiff, Nat.reduceLT, Nat.reduceAdd, Nat.reduceSub, Nat.reduceMul, Int.reduceLT, Int.reduceLE, Int.reduceEq, Int.reduceAdd, Int.reduceSub, Int.reduceMul, Int.reduceNeg, Int.reduceToNat, reduceCtorEq, n1, a2]
                · simp only [↓STEP, go_sem, ↓reduceIte, Nat.reduceEqDiff, Nat.reduceLeDiff, Nat.reduceLT, Nat.reduceAdd, Nat.reduceSub, Nat.reduceMul, Int.reduceLT, Int.reduceLE, Int.reduceEq, Int.reduceAdd, Int.reduceSub, Int.reduceMul, Int.reduceNeg, Int.reduceToNat, reduceCtorEq, n2, a3]
                · simp only [↓STEP, go_sem, ↓reduceIte, Nat.reduceEqDiff, Nat.reduceLeDiff, Nat.reduceLT, Nat.reduceAdd, Nat.reduceSub, Nat.reduceMul, Int.reduceLT, Int.reduceLE, Int.reduceEq, Int.reduceAdd, Int.reduceSub, Int.reduceMul, Int.reduceNeg, Int.reduceToNat, reduceCtorEq, n3, a4]
                · simp only [↓STEP, go_sem, ↓reduceIte, Nat.reduceEqDiff, Nat.reduceLeDiff, Nat.reduceLT, Nat.reduceAdd, Nat.reduceSub, Nat.reduceMul, Int.reduceLT, Int.reduceLE, Int.reduceEq, Int.reduceAdd, Int.reduceSub, Int.reduceMul, Int.reduceNeg, Int.reduceToNat, reduceCtorEq, n4, qLS]
                · rw [a6, hj1]; simp [resF, c3, hjn]
                · refine hkk _ a7 a7.1 (by simp only [↓STEP, go_sem, ↓reduceIte, Nat.reduceEqDiff, Nat.reduceLeDiff, Nat.reduceLT, Nat.reduceAdd, Nat.reduceSub, Nat.reduceMul, Int.reduceLT, Int.reduceLE, Int.reduceEq, Int.reduceAdd, Int.reduceSub, Int.reduceMul, Int.reduceNeg, Int.reduceToNat, reduceCtorEq]; try omega) fun b h1 h2 h3 h4 => ?_
                  simp only [↓STEP, go_sem, ↓reduceIte, Nat.reduceEqDiff, Nat.reduceLeDiff, Nat.reduceLT, Nat.reduceAdd, Nat.reduceSub, Nat.reduceMul, Int.reduceLT, Int.reduceLE, Int.reduceEq, Int.reduceAdd, Int.reduceSub, Int.reduceMul, Int.reduceNeg, Int.reduceToNat, reduceCtorEq, h2, h3, h4, show b ≠ g.nx by omega]
            · have c3' := c3
              simp only [↓STEP, go_sem, ↓reduceIte, Nat.reduceEqDiff, Nat.reduceLeDiff, Nat.reduceLT, Nat.reduceAdd, Nat.reduceSub, Nat.reduceMul, Int.reduceLT, Int.reduceLE, Int.reduceEq, Int.reduceAdd, Int.reduceSub, Int.reduceMul, Int.reduceNeg, Int.reduceToNat, reduceCtorEq, stParams, Tm.v_st, Fd.row, n0, n1, n2, n3, n4, n5, n6, n7, q2, q3, q6, q7, a1, a2, a3, a4, a5, qs.symm, c1', c2, c3]
              refine ⟨LS, rfl, qs.symm, _, rfl, ⟨by simp only [↓STEP, go_sem, ↓reduceIte, Nat.reduceEqDiff, Nat.reduceLeDiff, Nat.reduceLT, Nat.reduceAdd, Nat.reduceSub, Nat.reduceMul, Int.reduceLT, Int.reduceLE, Int.reduceEq, Int.reduceAdd, Int.reduceSub, Int.reduceMul, Int.reduceNeg, Int.reduceToNat, reduceCtorEq]; try omega, fun b hb1 hb2 => ?_⟩, ?_⟩
              · simp only [↓STEP, go_sem, ↓reduceIte, Nat.reduceEqDiff, Nat.reduceLeDiff, Nat.reduceLT, Nat.reduceAdd, Nat.reduceSub, Nat.reduceMul, Int.reduceLT, Int.reduceLE, Int.reduceEq, Int.reduceAdd, Int.reduceSub, Int.reduceMul, Int.reduceNeg, Int.reduceToNat, reduceCtorEq, show b ≠ h.nx + 4 by omega, show b ≠ h.nx + 3 by omega, show b ≠ h.nx + 2 by omega, show b ≠ g.nx by omega]
              · refine ⟨o, by simp only [↓STEP, go_sem, ↓reduceIte, Nat.reduceEqDiff, Nat.reduceLeDiff, Nat.reduceLT, Nat.reduceAdd, Nat.reduceSub, Nat.reduceMul, Int.reduceLT, Int.reduceLE, Int.reduceEq, Int.reduceAdd, Int.reduceSub, Int.reduceMul, Int.reduceNeg, Int.reduceToNat, reduceCtorEq]; try omega, ?_, ?_, ?_, ?_, ?_, ?_, ?_⟩
                · simp only [↓STEP, go_sem, ↓reduceIte, Nat.reduceEqDiff, Nat.reduceLeDiff, Nat.reduceLT, Nat.reduceAdd, Nat.reduceSub, Nat.reduceMul, Int.reduceLT, Int.reduceLE, Int.reduceEq, Int.reduceAdd, Int.reduceSub, Int.reduceMul, Int.reduceNeg, Int.reduceToNat, reduceCtorEq, n0, a1]
                · simp only [↓STEP, go_sem, ↓reduceIte, Nat.reduceEqDiff, Nat.reduceLeDiff, Nat.reduceLT, Nat.reduceAdd, Nat.reduceSub, Nat.reduceMul, Int.reduceLT, Int.reduceLE, Int.reduceEq, Int.reduceAdd, Int.reduceSub, Int.reduceMul, Int.reduceNeg, Int.reduceToNat, reduceCtorEq, n1, a2]
                · simp only [↓STEP, go_sem, ↓reduceIte, Nat.reduceEqDiff, Nat.reduceLeDiff, Nat.reduceLT, Nat.reduceAdd, Nat.reduceSub, Nat.reduceMul, Int.reduceLT, Int.reduceLE, Int.reduceEq, Int.reduceAdd, Int.reduceSub, Int.reduceMul, Int.reduceNeg, Int.reduceToNat, reduceCtorEq, n2, a3]
                · simp only [↓STEP, go_sem, ↓reduceIte, Nat.reduceEqDiff, Nat.reduceLeDiff, Nat.reduceLT, Nat.reduceAdd, Nat.reduceSub, Nat.reduceMul, Int.reduceLT, Int.reduceLE, Int.reduceEq, Int.reduceAdd, Int.reduceSub, Int.reduceMul, Int.reduceNeg, Int.reduceToNat, reduceCtorEq, n3, a4]
                · simp only [↓STEP, go_sem, ↓reduceIte, Nat.reduceEqDiff, Nat.reduceLeDiff, Nat.reduceLT, Nat.reduceAdd, Nat.reduceSub, Nat.reduceMul, Int.reduceLT, Int.reduceLE, Int.reduceEq, Int.reduceAdd, Int.reduceSub, Int.reduceMul, Int.reduceNeg, Int.reduceToNat, reduceCtorEq, n4, qLS]
                · rw [a6, hj1]; simp [resF, c3, hjn]
                · refine hkk _ a7 a7.1 (by simp only [↓STEP, go_sem, ↓reduceIte, Nat.reduceEqDiff, Nat.reduceLeDiff, Nat.reduceLT, Nat.reduceAdd, Nat.reduceSub, Nat.reduceMul, Int.reduceLT, Int.reduceLE, Int.reduceEq, Int.reduceAdd, Int.reduceSub, Int.reduceMul, Int.reduceNeg, Int.reduceToNat, reduceCtorEq]; try omega) fun b h1 h2 h3 h4 => ?_
                  simp only [↓STEP, go_sem, ↓reduceIte, Nat.reduceEqDiff, Nat.reduceLeDiff, Nat.reduceLT, Nat.reduceAdd, Nat.reduceSub, Nat.reduceMul, Int.reduceLT, Int.reduceLE, Int.reduceEq, Int.reduceAdd, Int.reduceSub, Int.reduceMul, Int.reduceNeg, Int.reduceToNat, reduceCtorEq, h2, h3, h4, show b ≠ g.nx by omega]
        · rw [if_neg c1] at a6
          have c3 := trivial
          simp only [↓STEP, go_sem, ↓reduceIte, Nat.reduceEqDiff, Nat.reduceLeDiff, Nat.reduceLT, Nat.reduceAdd, Nat.reduceSub, Nat.reduceMul, Int.reduceLT, Int.reduceLE, Int.reduceEq, Int.reduceAdd, Int.reduceSub, Int.reduceMul, Int.reduceNeg, Int.reduceToNat, reduceCtorEq, stParams, Tm.v_st, Fd.row, n0, n1, n2, n3, n4, n5, n6, n7, q2, q3, q6, q7, a1, a2, a3, a4, a5, qs.symm, c1]
          refine ⟨LS, rfl, qs.symm, _, rfl, ⟨by simp only [↓STEP, go_sem, ↓reduceIte, Nat.reduceEqDiff, Nat.reduceLeDiff, Nat.reduceLT, Nat.reduceAdd, Nat.reduceSub, Nat.reduceMul, Int.reduceLT, Int.reduceLE, Int.reduceEq, Int.reduceAdd, Int.reduceSub, Int.reduceMul, Int.reduceNeg, Int.reduceToNat, reduceCtorEq]; try omega, fun b hb1 hb2 => ?_⟩, ?_⟩
          · simp only [↓STEP, go_sem, ↓reduceIte, Nat.reduceEqDiff, Nat.reduceLeDiff, Nat.reduceLT, Nat.reduceAdd, Nat.reduceSub, Nat.reduceMul, Int.reduceLT, Int.reduceLE, Int.reduceEq, Int.reduceAdd, Int.reduceSub, Int.reduceMul, Int.reduceNeg, Int.reduceToNat, reduceCtorEq, show b ≠ h.nx + 4 by omega, show b ≠ h.nx + 3 by omega, show b ≠ h.nx + 2 by omega, show b ≠ g.nx by omega]
          · refine ⟨o, by simp only [↓STEP, go_sem, ↓reduceIte, Nat.reduceEqDiff, Nat.reduceLeDiff, Nat.reduceLT, Nat.reduceAdd, Nat.reduceSub, Nat.reduceMul, Int.reduceLT, Int.reduceLE, Int.reduceEq, Int.reduceAdd, Int.reduceSub, Int.reduceMul, Int.reduceNeg, Int.reduceToNat, reduceCtorEq]; try omega, ?_, ?_, ?_, ?_, ?_, ?_, ?_⟩
            · simp only [↓STEP, go_sem, ↓reduceIte, Nat.reduceEqDiff, Nat.reduceLeDiff, Nat.reduceLT, Nat.reduceAdd, Nat.reduceSub, Nat.reduceMul, Int.reduceLT, Int.reduceLE, Int.reduceEq, Int.reduceAdd, Int.reduceSub, Int.reduceMul, Int.reduceNeg, Int.reduceToNat, reduceCtorEq, n0, a1]
            · simp only [↓STEP, go_sem, ↓reduceIte, Nat.reduceEqDiff, Nat.reduceLeDiff, Nat.reduceLT, Nat.reduceAdd, Nat.reduceSub, Nat.reduceMul, Int.reduceLT, Int.reduceLE, Int.reduceEq, Int.reduceAdd, Int.reduceSub, Int.reduceMul, Int.reduceNeg, Int.reduceToNat, reduceCtorEq, n1, a2]
            · simp only [↓STEP, go_sem, ↓reduceIte, Nat.reduceEqDiff, Nat.reduceLeDiff, Nat.reduceLT, Nat.reduceAdd, Nat.reduceSub, Nat.reduceMul, Int.reduceLT, Int.reduceLE, Int.reduceEq, Int.reduceAdd, Int.reduceSub, Int.reduceMul, Int.reduceNeg, Int.reduceToNat, reduceCtorEq, n2, a3]
            · simp only [↓STEP, go_sem, ↓reduceIte, Nat.reduceEqDiff, Nat.reduceLeDiff, Nat.reduceLT, Nat.reduceAdd, Nat.reduceSub, Nat.reduceMul, Int.reduceLT, Int.reduceLE, Int.reduceEq, Int.reduceAdd, Int.reduceSub, Int.reduceMul, Int.reduceNeg, Int.reduceToNat, reduceCtorEq, n3, a4]
            · simp only [↓STEP, go_sem, ↓reduceIte, Nat.reduceEqDiff, Nat.reduceLeDiff, Nat.reduceLT, Nat.reduceAdd, Nat.reduceSub, Nat.reduceMul, Int.reduceLT, Int.reduceLE, Int.reduceEq, Int.reduceAdd, Int.reduceSub, Int.reduceMul, Int.reduceNeg, Int.reduceToNat, reduceCtorEq, n4, qLS]
            · rw [a6, hj1] <;> simp [resF, c3, hjn]
            · refine hkk _ a7 a7.1 (by simp only [↓STEP, go_sem, ↓reduceIte, Nat.reduceEqDiff, Nat.reduceLeDiff, Nat.reduceLT, Nat.reduceAdd, Nat.reduceSub, Nat.reduceMul, Int.reduceLT, Int.reduceLE, Int.reduceEq, Int.reduceAdd, Int.reduceSub, Int.reduceMul, Int.reduceNeg, Int.reduceToNat, reduceCtorEq]; try omega) fun b h1 h2 h3 h4 => ?_
              simp only [↓STEP, go_sem, ↓reduceIte, Nat.reduceEqDiff, Nat.reduceLeDiff, Nat.reduceLT, Nat.reduceAdd, Nat.reduceSub, Nat.reduceMul, Int.reduceLT, Int.reduceLE, Int.reduceEq, Int.reduceAdd, Int.reduceSub, Int.reduceMul, Int.reduceNeg, Int.reduceToNat, reduceCtorEq, h2, h3, h4, show b ≠ g.nx by omega]
      · rintro v h' (⟨o, a0, a1, a2, a3, a4, a5, a6, a7⟩ | ⟨L, a0, a3, a4, a5, a6, a7, a8⟩)
        · have hend : tabF.drop 61 = [] := List.drop_eq_nil_of_le (by show 61 ≤ 61; omega)
          rw [hend, fdF, resF] at a6
          have e1 : (fdF nm vl 1 tabF).1 = 0 := by rw [a6]
          have e2 : (fdF nm vl 1 tabF).2 = o := by rw [a6]; simp only; split <;> simp_all
          refine ⟨LS, a5, by rw [← qs]; simp, ?_⟩
          simp only [↓STEP, go_sem, ↓reduceIte, Nat.reduceEqDiff, Nat.reduceLeDiff, Nat.reduceLT, Nat.reduceAdd, Nat.reduceSub, Nat.reduceMul, Int.reduceLT, Int.reduceLE, Int.reduceEq, Int.reduceAdd, Int.reduceSub, Int.reduceMul, Int.reduceNeg, Int.reduceToNat, reduceCtorEq, qpd, q6, q7, a3, a4, e1, e2]
          exact Abs.out rfl rfl (a7.kill (by omega))
        · refine ⟨L, a5, by rw [a6]; simp, ?_⟩
          simp only [↓STEP, go_sem, ↓reduceIte, Nat.reduceEqDiff, Nat.reduceLeDiff, Nat.reduceLT, Nat.reduceAdd, Nat.reduceSub, Nat.reduceMul, Int.reduceLT, Int.reduceLE, Int.reduceEq, Int.reduceAdd, Int.reduceSub, Int.reduceMul, Int.reduceNeg, Int.reduceToNat, reduceCtorEq, a7, q6, q7, a3, a4]
          exact Abs.out rfl rfl (a8.kill (by omega))
  · cases hg
end Am
