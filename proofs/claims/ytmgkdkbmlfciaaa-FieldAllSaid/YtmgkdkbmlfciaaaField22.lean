/- The laws FieldStatic and FieldAll, over the contracts. -/
import Derived.Test.YtmgkdkbmlfciaaaField21
namespace Am
set_option linter.unusedVariables false
set_option linter.unusedSimpArgs false
set_option maxRecDepth 20000
set_option maxHeartbeats 8000000
variable {pr : Prog}

theorem stat_find : ∀ k : Fin 61, (1 ≤ (fdF (cutFd tabS[k.val]!).n (cutFd tabS[k.val]!).v 1 tabF).1 ∧ (fdF (cutFd tabS[k.val]!).n (cutFd tabS[k.val]!).v 1 tabF).1 ≤ (k.val : Int) + 1) ∧ 1 ≤ (fdF (cutFd tabS[k.val]!).n (cutFd tabS[k.val]!).v 1 tabF).2 ∧ (fdF (cutFd tabS[k.val]!).n (cutFd tabS[k.val]!).v 1 tabF).2 ≤ (fdF (cutFd tabS[k.val]!).n (cutFd tabS[k.val]!).v 1 tabF).1 := by decide +kernel
theorem stat_find' {i : Int} {f : Fd} (h : statF i = some f) : (1 ≤ (fdF f.n f.v 1 tabF).1 ∧ (fdF f.n f.v 1 tabF).1 ≤ i) ∧ 1 ≤ (fdF f.n f.v 1 tabF).2 ∧ (fdF f.n f.v 1 tabF).2 ≤ (fdF f.n f.v 1 tabF).1 := by
  unfold statF at h
  split at h
  · rename_i hi
    obtain ⟨k, rfl⟩ : ∃ k : Fin 61, i = (k.val : Int) + 1 := ⟨⟨(i - 1).toNat, by omega⟩, by simp; omega⟩
    have hk := k.isLt
    have e : ((k.val : Int) + 1 - 1).toNat = k.val := by omega
    have hget : tabS[k.val]? = some tabS[k.val]! := by rw [List.getElem!_eq_getElem?_getD, List.getElem?_eq_getElem (show k.val < tabS.length from hk)]; rfl
    rw [e, hget] at h
    cases h
    exact stat_find k
  · cases h
theorem xConst_eqT (v : V) (h : H) : xConst v [] h = some (v, h) := rfl
theorem gFind_eq (nm vl : List UInt8) (h : H) : gFind [.s nm, .s vl] h = some (.tup [.i .i64 (fdF nm vl 1 tabF).1, .i .i64 (fdF nm vl 1 tabF).2], h) := rfl
theorem gStat_some {i : Int} {f : Fd} (hf : statF i = some f) (h : H) : gStat [.i .i64 i] h = some (.tup [.agg [.s f.n, .s f.v, .b f.z], .i .i64 0], h) := by
  simp only [gStat, hf]; rfl
theorem gStat_none {i : Int} (hf : statF i = none) (h : H) : gStat [.i .i64 i] h = some (.tup [.agg [.s [], .s [], .b false], .i .i64 6], h) := by
  simp only [gStat, hf]
theorem fieldStatic_law {kb ks kt kf kg : Nat} (hb : pr.ext kb = some (xConst (.b true))) (hs : pr.ext ks = some gStat) (ht : pr.ext kt = some gStat) (hf : pr.ext kf = some gFind) (hg : pr.ext kg = some gFind)
    (i : Int) (nm vl : List UInt8) (h : H) : wpF pr (c_isthmuslaw3_FieldStatic kb ks kt kf kg) [.i .i64 i, .s nm, .s vl] h (fun v _ => v = .b true) := by
  have xb := @wpCall_ext pr kb _ hb
  have xs := @wpCall_ext pr ks _ hs
  have xt := @wpCall_ext pr kt _ ht
  have xf := @wpCall_ext pr kf _ hf
  have xg := @wpCall_ext pr kg _ hg
  unfold wpF c_isthmuslaw3_FieldStatic
  refine ⟨by simp, ?_⟩
  cases hst : statF i with
  | none =>
    have es := gStat_none hst
    simp only [↓STEP, go_sem, ↓reduceIte, Nat.reduceEqDiff, Nat.reduceLeDiff, Nat.reduceLT, Nat.reduceAdd, Nat.reduceSub, Nat.reduceMul, Int.reduceLT, Int.reduceLE, Int.reduceEq, Int.reduceAdd, Int.reduceSub, Int.reduceMul, Int.reduceNeg, Int.reduceToNat, reduceCtorEq, xb, xs, xt, xf, xg, es, gFind_eq, xConst_eqT, beq_self_eq_true]
  | some f =>
    have es := gStat_some hst
    obtain ⟨⟨b1, b2⟩, b3, b4⟩ := stat_find' hst
    have b1' := Int.not_lt.2 b1
    have b2' := Int.not_lt.2 b2
    have b3' := Int.not_lt.2 b3
    have b4' := Int.not_lt.2 b4
    simp only [↓STEP, go_sem, ↓reduceIte, Nat.reduceEqDiff, Nat.reduceLeDiff, Nat.reduceLT, Nat.reduceAdd, Nat.reduceSub, Nat.reduceMul, Int.reduceLT, Int.reduceLE, Int.reduceEq, Int.reduceAdd, Int.reduceSub, Int.reduceMul, Int.reduceNeg, Int.reduceToNat, reduceCtorEq, xb, xs, xt, xf, xg, es, gFind_eq, xConst_eqT, beq_self_eq_true, b1', b2', b3', b4']
theorem statF_tab {j : Nat} {f : Fd} (hj : j < 61) (hf : tabF[j]? = some f) : statF ((j : Int) + 1) = some f ∧ f.z = false := by
  unfold statF
  rw [if_pos (by omega), show ((j : Int) + 1 - 1).toNat = j by omega]
  unfold tabF at hf
  rw [List.getElem?_map] at hf
  refine ⟨hf, ?_⟩
  cases hg : tabS[j]? with
  | none => rw [hg] at hf; cases hf
  | some s => rw [hg] at hf; cases hf; rfl
def OInv (h : H) (most : Int) (LS : LoopSt) (j : Nat) (g : H) : Prop :=
  h.nx + 3 < g.nx ∧ g.get h.nx = some (.rows 1 [[.i .i64 most]] false) ∧ g.get (h.nx + 1) = some (.rows 1 [[.b false]] false) ∧ g.get (h.nx + 2) = some (.rows 1 [[.i .i64 j]] false) ∧
    g.get (h.nx + 3) = some (.loop LS) ∧ ¬ (1 ≤ most ∧ most ≤ j)
def ODone (h : H) (most : Int) (g : H) : Prop :=
  ∃ L, h.nx + 3 < g.nx ∧ g.get h.nx = some (.rows 1 [[.i .i64 most]] false) ∧ g.get (h.nx + 1) = some (.rows 1 [[.b false]] false) ∧ g.get (h.nx + 2) = some (.rows 1 [[.i .i64 most]] false) ∧
    g.get (h.nx + 3) = some (.loop L) ∧ L.st = .done ∧ L.pend = .exit 0 ∧ 1 ≤ most ∧ most ≤ 61
def IInv (h g : H) (most : Int) (LB LS : LoopSt) (j i : Nat) (g' : H) : Prop :=
  g.nx + 3 < g'.nx ∧ g'.get h.nx = some (.rows 1 [[.i .i64 most]] false) ∧ g'.get (h.nx + 1) = some (.rows 1 [[.b false]] false) ∧ g'.get (h.nx + 2) = some (.rows 1 [[.i .i64 ((j : Int) + 1)]] false) ∧
    g'.get (h.nx + 3) = some (.loop LB) ∧ g'.get (g.nx + 2) = some (.rows 1 [[.i .i64 i]] false) ∧ g'.get (g.nx + 3) = some (.loop LS) ∧ i < 3 ∧ (∀ b, h.nx + 3 < b → b < g.nx → g'.get b = g.get b)
def IDone (h g : H) (most : Int) (LB : LoopSt) (j : Nat) (g' : H) : Prop :=
  ∃ L, g.nx + 3 < g'.nx ∧ g'.get h.nx = some (.rows 1 [[.i .i64 most]] false) ∧ g'.get (h.nx + 1) = some (.rows 1 [[.b false]] false) ∧ g'.get (h.nx + 2) = some (.rows 1 [[.i .i64 ((j : Int) + 1)]] false) ∧
    g'.get (h.nx + 3) = some (.loop LB) ∧ g'.get (g.nx + 2) = some (.rows 1 [[.i .i64 3]] false) ∧ g'.get (g.nx + 3) = some (.loop L) ∧ L.st = .done ∧ L.pend = .exit 2 ∧ (∀ b, h.nx + 3 < b → b < g.nx → g'.get b = g.get b)
theorem fieldAll_law {kb ks kc kA kl kt : Nat} (hb : pr.ext kb = some (xConst (.b true))) (hs : pr.ext ks = some (gTab tabS)) (hc : pr.ext kc = some gCut) (hA : pr.ext kA = none) (hfn : pr.fn kA = some (c_field_All_1 ks kc)) (hl : pr.ext kl = some (gAll kA)) (ht : pr.ext kt = some gStat)
    (most : Int) (h : H) : wpF pr (c_isthmuslaw3_FieldAll kb kl kt) [.i .i64 most] h (fun v _ => v = .b true) := by
  have xb := @wpCall_ext pr kb _ hb
  have xl := @wpCall_ext pr kl _ hl
  have xt := @wpCall_ext pr kt _ ht
  have el : ∀ g, gAll kA [] g = some (.f (.fn kA) [], g) := fun g => rfl
  unfold wpF c_isthmuslaw3_FieldAll
  refine ⟨by simp, ?_⟩
  simp only [↓STEP, go_sem, ↓reduceIte, Nat.reduceEqDiff, Nat.reduceLeDiff, Nat.reduceLT, Nat.reduceAdd, Nat.reduceSub, Nat.reduceMul, Int.reduceLT, Int.reduceLE, Int.reduceEq, Int.reduceAdd, Int.reduceSub, Int.reduceMul, Int.reduceNeg, Int.reduceToNat, reduceCtorEq, xb, xl, el, xConst_eqT]
  refine wpA_rfn rfl (k := kA) (caps := []) ?_ ?_
  · simp only [↓STEP, go_sem, ↓reduceIte, Nat.reduceEqDiff, Nat.reduceLeDiff, Nat.reduceLT, Nat.reduceAdd, Nat.reduceSub, Nat.reduceMul, Int.reduceLT, Int.reduceLE, Int.reduceEq, Int.reduceAdd, Int.reduceSub, Int.reduceMul, Int.reduceNeg, Int.reduceToNat, reduceCtorEq]
  · simp only [↓STEP, go_sem, ↓reduceIte, Nat.reduceEqDiff, Nat.reduceLeDiff, Nat.reduceLT, Nat.reduceAdd, Nat.reduceSub, Nat.reduceMul, Int.reduceLT, Int.reduceLE, Int.reduceEq, Int.reduceAdd, Int.reduceSub, Int.reduceMul, Int.reduceNeg, Int.reduceToNat, reduceCtorEq]
    generalize hLS : LoopSt.mk _ _ _ _ _ _ _ = LS
    have q1 : LS.tm.v 1 = .p (some (h.nx, 0, 0)) := by rw [← hLS]; simp only [↓STEP, go_sem, ↓reduceIte, Nat.reduceEqDiff, Nat.reduceLeDiff, Nat.reduceLT, Nat.reduceAdd, Nat.reduceSub, Nat.reduceMul, Int.reduceLT, Int.reduceLE, Int.reduceEq, Int.reduceAdd, Int.reduceSub, Int.reduceMul, Int.reduceNeg, Int.reduceToNat, reduceCtorEq]
    have q2 : LS.tm.v 2 = .p (some (h.nx + 1, 0, 0)) := by rw [← hLS]; simp only [↓STEP, go_sem, ↓reduceIte, Nat.reduceEqDiff, Nat.reduceLeDiff, Nat.reduceLT, Nat.reduceAdd, Nat.reduceSub, Nat.reduceMul, Int.reduceLT, Int.reduceLE, Int.reduceEq, Int.reduceAdd, Int.reduceSub, Int.reduceMul, Int.reduceNeg, Int.reduceToNat, reduceCtorEq]
    have q3 : LS.tm.v 3 = .b true := by rw [← hLS]; simp only [↓STEP, go_sem, ↓reduceIte, Nat.reduceEqDiff, Nat.reduceLeDiff, Nat.reduceLT, Nat.reduceAdd, Nat.reduceSub, Nat.reduceMul, Int.reduceLT, Int.reduceLE, Int.reduceEq, Int.reduceAdd, Int.reduceSub, Int.reduceMul, Int.reduceNeg, Int.reduceToNat, reduceCtorEq]
    have q4 : LS.tm.v 4 = .p (some (h.nx + 2, 0, 0)) := by rw [← hLS]; simp only [↓STEP, go_sem, ↓reduceIte, Nat.reduceEqDiff, Nat.reduceLeDiff, Nat.reduceLT, Nat.reduceAdd, Nat.reduceSub, Nat.reduceMul, Int.reduceLT, Int.reduceLE, Int.reduceEq, Int.reduceAdd, Int.reduceSub, Int.reduceMul, Int.reduceNeg, Int.reduceToNat, reduceCtorEq]
    have qs := congrArg LoopSt.st hLS
    have qpd : LS.pend = .normal := (congrArg LoopSt.pend hLS).symm
    have qLS : LoopSt.mk LoopState.ready Ex.normal LS.tm LS.nt LS.params LS.assign LS.body = LS := by rw [← hLS]
    simp only at qs
    refine Runs.mono (all1_runs hs hc hA hfn (Inv := OInv h most LS) (Done := ODone h most) (L := h.nx + 3) ?_ ?_ ?_ ?_) ?_
    · rintro j g g' ⟨a0, a1, a2, a3, a4, a5⟩ hk
      exact ⟨by have := hk.1; omega, by rw [hk.2 _ (by omega)]; exact a1, by rw [hk.2 _ (by omega)]; exact a2, by rw [hk.2 _ (by omega)]; exact a3, by rw [hk.2 _ (by omega)]; exact a4, a5⟩
    · simp only [↓STEP, go_sem, ↓reduceIte, Nat.reduceEqDiff, Nat.reduceLeDiff, Nat.reduceLT, Nat.reduceAdd, Nat.reduceSub, Nat.reduceMul, Int.reduceLT, Int.reduceLE, Int.reduceEq, Int.reduceAdd, Int.reduceSub, Int.reduceMul, Int.reduceNeg, Int.reduceToNat, reduceCtorEq]; try omega
    · refine ⟨?_, ?_, ?_, ?_, ?_, ?_⟩
      all_goals (try simp only [↓STEP, go_sem, ↓reduceIte, Nat.reduceEqDiff, Nat.reduceLeDiff, Nat.reduceLT, Nat.reduceAdd, Nat.reduceSub, Nat.reduceMul, Int.reduceLT, Int.reduceLE, Int.reduceEq, Int.reduceAdd, Int.reduceSub, Int.reduceMul, Int.reduceNeg, Int.reduceToNat, reduceCtorEq])
      all_goals (try omega)
    · rintro j f g hj hf ⟨a0, a1, a2, a3, a4, a5⟩
      obtain ⟨hst, hz⟩ := statF_tab hj hf
      have es := gStat_some hst
      rw [hz] at es
      have qa := congrArg LoopSt.assign hLS
      have qb := congrArg LoopSt.body hLS
      have qp := congrArg LoopSt.params hLS
      simp only at qa qb qp
      refine runs_yl a4 (by rw [← qp]; rfl) ?_
      rw [← qa, ← qb, ← qp]
      have n0 : h.nx ≠ g.nx := by omega
      have n1 : h.nx + 1 ≠ g.nx := by omega
      have n2 : h.nx + 2 ≠ g.nx := by omega
      have n3 : h.nx + 3 ≠ g.nx := by omega
      have m0 : g.nx ≠ h.nx := by omega
      have m1 : g.nx ≠ h.nx + 1 := by omega
      have m2 : g.nx ≠ h.nx + 2 := by omega
      have m3 : g.nx ≠ h.nx + 3 := by omega
      have n4 : h.nx ≠ g.nx + 1 := by omega
      have n5 : h.nx + 1 ≠ g.nx + 1 := by omega
      have n6 : h.nx + 2 ≠ g.nx + 1 := by omega
      have n7 : h.nx + 3 ≠ g.nx + 1 := by omega
      have n8 : h.nx ≠ g.nx + 2 := by omega
      have n9 : h.nx + 1 ≠ g.nx + 2 := by omega
      have n10 : h.nx + 2 ≠ g.nx + 2 := by omega
      have n11 : h.nx + 3 ≠ g.nx + 2 := by omega
      have hw : Go.IntKind.wrap .i64 ((j : Int) + 1) = (j : Int) + 1 := wrap_i64 (by omega) (by omega)
      have hz' := eq_true hz
      simp only [↓STEP, go_sem, ↓reduceIte, Nat.reduceEqDiff, Nat.reduceLeDiff, Nat.reduceLT, Nat.reduceAdd, Nat.reduceSub, Nat.reduceMul, Int.reduceLT, Int.reduceLE, Int.reduceEq, Int.reduceAdd, Int.reduceSub, Int.reduceMul, Int.reduceNeg, Int.reduceToNat, reduceCtorEq, stParams, Tm.v_st, Fd.row, n0, n1, n2, n3, n4, n5, n6, n7, n8, n9, n10, n11, m0, m1, m2, m3, q1, q2, q3, q4, a1, a2, a3, a4, qs.symm, hw, xt, xl, el, es, hz']
      refine ⟨LS, rfl, qs.symm, ?_⟩
      generalize hLB : LoopSt.mk .busy _ _ _ _ _ _ = LB
      have n12 : h.nx ≠ g.nx + 3 := by omega
      have n13 : h.nx + 1 ≠ g.nx + 3 := by omega
      have n14 : h.nx + 2 ≠ g.nx + 3 := by omega
      have n15 : h.nx + 3 ≠ g.nx + 3 := by omega
      refine wpA_rfn ?_ (k := kA) (caps := []) ?_ ?_
      · simp only [↓STEP, go_sem, ↓reduceIte, Nat.reduceEqDiff, Nat.reduceLeDiff, Nat.reduceLT, Nat.reduceAdd, Nat.reduceSub, Nat.reduceMul, Int.reduceLT, Int.reduceLE, Int.reduceEq, Int.reduceAdd, Int.reduceSub, Int.reduceMul, Int.reduceNeg, Int.reduceToNat, reduceCtorEq, aroundOk, n3, n7, n11]
      · simp only [↓STEP, go_sem, ↓reduceIte, Nat.reduceEqDiff, Nat.reduceLeDiff, Nat.reduceLT, Nat.reduceAdd, Nat.reduceSub, Nat.reduceMul, Int.reduceLT, Int.reduceLE, Int.reduceEq, Int.reduceAdd, Int.reduceSub, Int.reduceMul, Int.reduceNeg, Int.reduceToNat, reduceCtorEq]
      · simp only [↓STEP, go_sem, ↓reduceIte, Nat.reduceEqDiff, Nat.reduceLeDiff, Nat.reduceLT, Nat.reduceAdd, Nat.reduceSub, Nat.reduceMul, Int.reduceLT, Int.reduceLE, Int.reduceEq, Int.reduceAdd, Int.reduceSub, Int.reduceMul, Int.reduceNeg, Int.reduceToNat, reduceCtorEq]
        generalize hLT : LoopSt.mk .ready _ _ _ _ _ _ = LT
        have r10 : LT.tm.v 10 = .p (some (g.nx + 2, 0, 0)) := by rw [← hLT]; simp only [↓STEP, go_sem, ↓reduceIte, Nat.reduceEqDiff, Nat.reduceLeDiff, Nat.reduceLT, Nat.reduceAdd, Nat.reduceSub, Nat.reduceMul, Int.reduceLT, Int.reduceLE, Int.reduceEq, Int.reduceAdd, Int.reduceSub, Int.reduceMul, Int.reduceNeg, Int.reduceToNat, reduceCtorEq]
        have rs := congrArg LoopSt.st hLT
        have rpd : LT.pend = .normal := (congrArg LoopSt.pend hLT).symm
        have rLT : LoopSt.mk LoopState.ready Ex.normal LT.tm LT.nt LT.params LT.assign LT.body = LT := by rw [← hLT]
        simp only at rs
        refine Runs.mono (all1_runs hs hc hA hfn (Inv := IInv h g most LB LT j) (Done := IDone h g most LB j) (L := g.nx + 3) ?_ ?_ ?_ ?_) ?_
        · rintro i g1 g2 ⟨a0, a1, a2, a3, a4, a5, a6, a7, a8⟩ hk
          exact ⟨by have := hk.1; omega, by rw [hk.2 _ (by omega)]; exact a1, by rw [hk.2 _ (by omega)]; exact a2, by rw [hk.2 _ (by omega)]; exact a3, by rw [hk.2 _ (by omega)]; exact a4, by rw [hk.2 _ (by omega)]; exact a5, by rw [hk.2 _ (by omega)]; exact a6, a7, fun b h1 h2 => by rw [hk.2 _ (by omega)]; exact a8 b h1 h2⟩
        · simp only [↓STEP, go_sem, ↓reduceIte, Nat.reduceEqDiff, Nat.reduceLeDiff, Nat.reduceLT, Nat.reduceAdd, Nat.reduceSub, Nat.reduceMul, Int.reduceLT, Int.reduceLE, Int.reduceEq, Int.reduceAdd, Int.reduceSub, Int.reduceMul, Int.reduceNeg, Int.reduceToNat, reduceCtorEq]; try omega
        · refine ⟨?_, ?_, ?_, ?_, ?_, ?_, ?_, by omega, fun b h1 h2 => ?_⟩
          rotate_right
          · simp only [↓STEP, go_sem, ↓reduceIte, Nat.reduceEqDiff, Nat.reduceLeDiff, Nat.reduceLT, Nat.reduceAdd, Nat.reduceSub, Nat.reduceMul, Int.reduceLT, Int.reduceLE, Int.reduceEq, Int.reduceAdd, Int.reduceSub, Int.reduceMul, Int.reduceNeg, Int.reduceToNat, reduceCtorEq, show b ≠ h.nx + 3 by omega, show b ≠ h.nx + 2 by omega, show b ≠ g.nx by omega, show b ≠ g.nx + 1 by omega, show b ≠ g.nx + 2 by omega, show b ≠ g.nx + 3 by omega]
          all_goals (try simp only [↓STEP, go_sem, ↓reduceIte, Nat.reduceEqDiff, Nat.reduceLeDiff, Nat.reduceLT, Nat.reduceAdd, Nat.reduceSub, Nat.reduceMul, Int.reduceLT, Int.reduceLE, Int.reduceEq, Int.reduceAdd, Int.reduceSub, Int.reduceMul, Int.reduceNeg, Int.reduceToNat, reduceCtorEq, n0, n1, n2, n3, n4, n5, n6, n7, n8, n9, n10, n11, n12, n13, n14, n15, m0, m1, m2, m3, a1, a2, a3])
          all_goals (try omega)
          all_goals (try rfl)
        · rintro i f1 g1 hi hf1 ⟨b0, b1, b2, b3, b4, b5, b6, b7, b8⟩
          have qa := congrArg LoopSt.assign hLT
          have qb := congrArg LoopSt.body hLT
          have qp := congrArg LoopSt.params hLT
          simp only at qa qb qp
          refine runs_yl b6 (by rw [← qp]; rfl) ?_
          rw [← qa, ← qb, ← qp]
          have hw : Go.IntKind.wrap .i64 ((i : Int) + 1) = (i : Int) + 1 := wrap_i64 (by omega) (by omega)
          have k0 : h.nx ≠ g.nx + 2 := by omega
          have k1 : h.nx + 1 ≠ g.nx + 2 := by omega
          have k2 : h.nx + 2 ≠ g.nx + 2 := by omega
          have k3 : h.nx + 3 ≠ g.nx + 2 := by omega
          have hkb : ∀ x y, KeptBeh (g.nx + 3) g1 (((g1.set (g.nx + 3) x).set (g.nx + 2) (.rows 1 [[.i .i64 ((i : Int) + 1)]] false)).set (g.nx + 3) y) := fun x y =>
            ⟨Nat.le_refl _, fun b h1 h2 => by simp only [↓STEP, go_sem, ↓reduceIte, Nat.reduceEqDiff, Nat.reduceLeDiff, Nat.reduceLT, Nat.reduceAdd, Nat.reduceSub, Nat.reduceMul, Int.reduceLT, Int.reduceLE, Int.reduceEq, Int.reduceAdd, Int.reduceSub, Int.reduceMul, Int.reduceNeg, Int.reduceToNat, reduceCtorEq, show b ≠ g.nx + 3 by omega, show b ≠ g.nx + 2 by omega]⟩
          have l0 : h.nx ≠ g.nx + 3 := by omega
          have hlast : ∀ x y b, h.nx + 3 < b → b < g.nx → (((g1.set (g.nx + 3) x).set (g.nx + 2) (.rows 1 [[.i .i64 ((i : Int) + 1)]] false)).set (g.nx + 3) y).get b = g.get b := fun x y b h1 h2 => by
            simp only [↓STEP, go_sem, ↓reduceIte, Nat.reduceEqDiff, Nat.reduceLeDiff, Nat.reduceLT, Nat.reduceAdd, Nat.reduceSub, Nat.reduceMul, Int.reduceLT, Int.reduceLE, Int.reduceEq, Int.reduceAdd, Int.reduceSub, Int.reduceMul, Int.reduceNeg, Int.reduceToNat, reduceCtorEq, show b ≠ g.nx + 3 by omega, show b ≠ g.nx + 2 by omega, b8 b h1 h2]
          by_cases h2 : (i : Int) + 1 = 3
          · have h2' := eq_true h2
            simp only [↓STEP, go_sem, ↓reduceIte, Nat.reduceEqDiff, Nat.reduceLeDiff, Nat.reduceLT, Nat.reduceAdd, Nat.reduceSub, Nat.reduceMul, Int.reduceLT, Int.reduceLE, Int.reduceEq, Int.reduceAdd, Int.reduceSub, Int.reduceMul, Int.reduceNeg, Int.reduceToNat, reduceCtorEq, stParams, Tm.v_st, b1, b2, b3, b4, b5, b6, r10, rs.symm, hw, h2']
            refine ⟨LT, rfl, rs.symm, _, rfl, hkb _ _, ?_⟩
            refine ⟨LoopSt.mk .done (.exit 2) LT.tm LT.nt LT.params LT.assign LT.body, by simp only [↓STEP, go_sem, ↓reduceIte, Nat.reduceEqDiff, Nat.reduceLeDiff, Nat.reduceLT, Nat.reduceAdd, Nat.reduceSub, Nat.reduceMul, Int.reduceLT, Int.reduceLE, Int.reduceEq, Int.reduceAdd, Int.reduceSub, Int.reduceMul, Int.reduceNeg, Int.reduceToNat, reduceCtorEq]; try omega, ?_, ?_, ?_, ?_, ?_, ?_, rfl, rfl, hlast _ _⟩
            all_goals (simp only [↓STEP, go_sem, ↓reduceIte, Nat.reduceEqDiff, Nat.reduceLeDiff, Nat.reduceLT, Nat.reduceAdd, Nat.reduceSub, Nat.reduceMul, Int.reduceLT, Int.reduceLE, Int.reduceEq, Int.reduceAdd, Int.reduceSub, Int.reduceMul, Int.reduceNeg, Int.reduceToNat, reduceCtorEq, k0, k1, k2, k3, l0, n12, n13, n14, n15, b1, b2, b3, b4, h2])
          · have h3 : i < 2 := by omega
            simp only [↓STEP, go_sem, ↓reduceIte, Nat.reduceEqDiff, Nat.reduceLeDiff, Nat.reduceLT, Nat.reduceAdd, Nat.reduceSub, Nat.reduceMul, Int.reduceLT, Int.reduceLE, Int.reduceEq, Int.reduceAdd, Int.reduceSub, Int.reduceMul, Int.reduceNeg, Int.reduceToNat, reduceCtorEq, stParams, Tm.v_st, b1, b2, b3, b4, b5, b6, r10, rs.symm, hw, h2]
            refine ⟨LT, rfl, rs.symm, _, rfl, hkb _ _, ?_⟩
            refine ⟨by simp only [↓STEP, go_sem, ↓reduceIte, Nat.reduceEqDiff, Nat.reduceLeDiff, Nat.reduceLT, Nat.reduceAdd, Nat.reduceSub, Nat.reduceMul, Int.reduceLT, Int.reduceLE, Int.reduceEq, Int.reduceAdd, Int.reduceSub, Int.reduceMul, Int.reduceNeg, Int.reduceToNat, reduceCtorEq]; try omega, ?_, ?_, ?_, ?_, ?_, ?_, by omega, hlast _ _⟩
            all_goals (simp only [↓STEP, go_sem, ↓reduceIte, Nat.reduceEqDiff, Nat.reduceLeDiff, Nat.reduceLT, Nat.reduceAdd, Nat.reduceSub, Nat.reduceMul, Int.reduceLT, Int.reduceLE, Int.reduceEq, Int.reduceAdd, Int.reduceSub, Int.reduceMul, Int.reduceNeg, Int.reduceToNat, reduceCtorEq, k0, k1, k2, k3, l0, n12, n13, n14, n15, b1, b2, b3, b4, rLT])
            all_goals (try rfl)
        · rintro v h' (⟨b0, b1, b2, b3, b4, b5, b6, b7, b8⟩ | ⟨L, b0, b1, b2, b3, b4, b5, b6, b7, b8, b9⟩)
          · omega
          · refine ⟨L, b6, by rw [b7]; simp, ?_⟩
            have r1 : LT.tm.v 10 = .p (some (g.nx + 2, 0, 0)) := r10
            have k0 : h.nx ≠ g.nx + 2 := by omega
            by_cases c1 : (j : Int) + 1 = most
            · have c1' := eq_true c1
              simp only [↓STEP, go_sem, ↓reduceIte, Nat.reduceEqDiff, Nat.reduceLeDiff, Nat.reduceLT, Nat.reduceAdd, Nat.reduceSub, Nat.reduceMul, Int.reduceLT, Int.reduceLE, Int.reduceEq, Int.reduceAdd, Int.reduceSub, Int.reduceMul, Int.reduceNeg, Int.reduceToNat, reduceCtorEq, b8, v_pd, v_pd0, Tm.v_st, q1, q2, q3, q4, b1, b2, b3, b4, b5, n12, n13, n14, n15, c1']
              refine ⟨LB, rfl, ⟨by simp only [↓STEP, go_sem, ↓reduceIte, Nat.reduceEqDiff, Nat.reduceLeDiff, Nat.reduceLT, Nat.reduceAdd, Nat.reduceSub, Nat.reduceMul, Int.reduceLT, Int.reduceLE, Int.reduceEq, Int.reduceAdd, Int.reduceSub, Int.reduceMul, Int.reduceNeg, Int.reduceToNat, reduceCtorEq]; omega, fun b h1 h2 => ?_⟩, LoopSt.mk .done (.exit 0) LB.tm LB.nt LB.params LB.assign LB.body, by simp only [↓STEP, go_sem, ↓reduceIte, Nat.reduceEqDiff, Nat.reduceLeDiff, Nat.reduceLT, Nat.reduceAdd, Nat.reduceSub, Nat.reduceMul, Int.reduceLT, Int.reduceLE, Int.reduceEq, Int.reduceAdd, Int.reduceSub, Int.reduceMul, Int.reduceNeg, Int.reduceToNat, reduceCtorEq]; omega, ?_, ?_, ?_, ?_, rfl, rfl, by omega, by omega⟩
              · simp only [↓STEP, go_sem, ↓reduceIte, Nat.reduceEqDiff, Nat.reduceLeDiff, Nat.reduceLT, Nat.reduceAdd, Nat.reduceSub, Nat.reduceMul, Int.reduceLT, Int.reduceLE, Int.reduceEq, Int.reduceAdd, Int.reduceSub, Int.reduceMul, Int.reduceNeg, Int.reduceToNat, reduceCtorEq, show b ≠ h.nx + 3 by omega, show b ≠ g.nx + 3 by omega, b9 b h1 h2]
              all_goals (simp only [↓STEP, go_sem, ↓reduceIte, Nat.reduceEqDiff, Nat.reduceLeDiff, Nat.reduceLT, Nat.reduceAdd, Nat.reduceSub, Nat.reduceMul, Int.reduceLT, Int.reduceLE, Int.reduceEq, Int.reduceAdd, Int.reduceSub, Int.reduceMul, Int.reduceNeg, Int.reduceToNat, reduceCtorEq, n12, n13, n14, n15, b1, b2, b3, c1])
            · simp only [↓STEP, go_sem, ↓reduceIte, Nat.reduceEqDiff, Nat.reduceLeDiff, Nat.reduceLT, Nat.reduceAdd, Nat.reduceSub, Nat.reduceMul, Int.reduceLT, Int.reduceLE, Int.reduceEq, Int.reduceAdd, Int.reduceSub, Int.reduceMul, Int.reduceNeg, Int.reduceToNat, reduceCtorEq, b8, v_pd, v_pd0, Tm.v_st, q1, q2, q3, q4, b1, b2, b3, b4, b5, n12, n13, n14, n15, c1]
              have e1 : LB.tm = LS.tm := by rw [← hLB]
              have e2 : LB.nt = LS.nt := by rw [← hLB]
              have e3 : LB.params = LS.params := by rw [← hLB]
              have e4 : LB.assign = LS.assign := by rw [← hLB]
              have e5 : LB.body = LS.body := by rw [← hLB]
              refine ⟨LB, rfl, ⟨by simp only [↓STEP, go_sem, ↓reduceIte, Nat.reduceEqDiff, Nat.reduceLeDiff, Nat.reduceLT, Nat.reduceAdd, Nat.reduceSub, Nat.reduceMul, Int.reduceLT, Int.reduceLE, Int.reduceEq, Int.reduceAdd, Int.reduceSub, Int.reduceMul, Int.reduceNeg, Int.reduceToNat, reduceCtorEq]; omega, fun b h1 h2 => ?_⟩, by simp only [↓STEP, go_sem, ↓reduceIte, Nat.reduceEqDiff, Nat.reduceLeDiff, Nat.reduceLT, Nat.reduceAdd, Nat.reduceSub, Nat.reduceMul, Int.reduceLT, Int.reduceLE, Int.reduceEq, Int.reduceAdd, Int.reduceSub, Int.reduceMul, Int.reduceNeg, Int.reduceToNat, reduceCtorEq]; omega, ?_, ?_, ?_, ?_, by omega⟩
              · simp only [↓STEP, go_sem, ↓reduceIte, Nat.reduceEqDiff, Nat.reduceLeDiff, Nat.reduceLT, Nat.reduceAdd, Nat.reduceSub, Nat.reduceMul, Int.reduceLT, Int.reduceLE, Int.reduceEq, Int.reduceAdd, Int.reduceSub, Int.reduceMul, Int.reduceNeg, Int.reduceToNat, reduceCtorEq, show b ≠ h.nx + 3 by omega, show b ≠ g.nx + 3 by omega, b9 b h1 h2]
              all_goals (simp only [↓STEP, go_sem, ↓reduceIte, Nat.reduceEqDiff, Nat.reduceLeDiff, Nat.reduceLT, Nat.reduceAdd, Nat.reduceSub, Nat.reduceMul, Int.reduceLT, Int.reduceLE, Int.reduceEq, Int.reduceAdd, Int.reduceSub, Int.reduceMul, Int.reduceNeg, Int.reduceToNat, reduceCtorEq, n12, n13, n14, n15, b1, b2, b3, e1, e2, e3, e4, e5, qLS])
              all_goals (try rfl)
    · rintro v h' (⟨a0, a1, a2, a3, a4, a5⟩ | ⟨L, a0, a1, a2, a3, a4, a5, a6, a7, a8⟩)
      · refine ⟨LS, a4, by rw [← qs]; simp, ?_⟩
        have n0 : h.nx ≠ h.nx + 3 := by omega
        by_cases c1 : 1 ≤ most
        · have c2 : ¬ most < 61 := by omega
          have c1' := eq_true c1
          simp only [↓STEP, go_sem, ↓reduceIte, Nat.reduceEqDiff, Nat.reduceLeDiff, Nat.reduceLT, Nat.reduceAdd, Nat.reduceSub, Nat.reduceMul, Int.reduceLT, Int.reduceLE, Int.reduceEq, Int.reduceAdd, Int.reduceSub, Int.reduceMul, Int.reduceNeg, Int.reduceToNat, reduceCtorEq, qpd, q1, q2, q3, q4, a1, a2, a3, a4, c1', c2, n0, v_pd, v_pd0]
        · simp only [↓STEP, go_sem, ↓reduceIte, Nat.reduceEqDiff, Nat.reduceLeDiff, Nat.reduceLT, Nat.reduceAdd, Nat.reduceSub, Nat.reduceMul, Int.reduceLT, Int.reduceLE, Int.reduceEq, Int.reduceAdd, Int.reduceSub, Int.reduceMul, Int.reduceNeg, Int.reduceToNat, reduceCtorEq, qpd, q1, q2, q3, q4, a1, a2, a3, a4, c1, n0, v_pd, v_pd0]
      · refine ⟨L, a4, by rw [a5]; simp, ?_⟩
        have a7' := eq_true a7
        by_cases c2 : most < 61
        · have c2' := eq_true c2
          simp only [↓STEP, go_sem, ↓reduceIte, Nat.reduceEqDiff, Nat.reduceLeDiff, Nat.reduceLT, Nat.reduceAdd, Nat.reduceSub, Nat.reduceMul, Int.reduceLT, Int.reduceLE, Int.reduceEq, Int.reduceAdd, Int.reduceSub, Int.reduceMul, Int.reduceNeg, Int.reduceToNat, reduceCtorEq, a6, q1, q2, q3, q4, a1, a2, a3, a4, a7', c2', v_pd, v_pd0]
        · have c3 : most = 61 := by omega
          subst c3
          simp only [↓STEP, go_sem, ↓reduceIte, Nat.reduceEqDiff, Nat.reduceLeDiff, Nat.reduceLT, Nat.reduceAdd, Nat.reduceSub, Nat.reduceMul, Int.reduceLT, Int.reduceLE, Int.reduceEq, Int.reduceAdd, Int.reduceSub, Int.reduceMul, Int.reduceNeg, Int.reduceToNat, reduceCtorEq, a6, q1, q2, q3, q4, a1, a2, a3, a4, v_pd, v_pd0]
end Am
