/- The law ConfBack, over what the functions of the layer 'conf' answer. -/
import Derived.Test.YtdnigcfofodjhaaConf3
import Derived.Test.YtdnigcfofodjhaaConfMay
namespace Am
set_option linter.unusedVariables false
set_option linter.unusedSimpArgs false
set_option maxRecDepth 10000
variable {pr : Prog}

def eqCf (x y : Cf) : Bool := decide (x.a = y.a) && decide (x.b = y.b) && decide (x.c = y.c) && decide (x.d = y.d) && decide (x.e = y.e)
def gEq (as : List V) (h : H) : Option (V × H) :=
  match as with
  | [.agg [.i .i64 a, .i .i64 b, .i .i64 c, .i .i64 d, .i .i64 e], .agg [.i .i64 a', .i .i64 b', .i .i64 c', .i .i64 d', .i .i64 e']] => some (.b (eqCf ⟨a, b, c, d, e⟩ ⟨a', b', c', d', e'⟩), h)
  | _ => none
theorem gEq_eq (a b c d e a' b' c' d' e' : Int) (h : H) : gEq [.agg [.i .i64 a, .i .i64 b, .i .i64 c, .i .i64 d, .i .i64 e], .agg [.i .i64 a', .i .i64 b', .i .i64 c', .i .i64 d', .i .i64 e']] h = some (.b (eqCf ⟨a, b, c, d, e⟩ ⟨a', b', c', d', e'⟩), h) := rfl
theorem eq_ok : OkFor pr c_isthmuslaw12_eq gEq := by
  intro as h v h' hg
  unfold gEq at hg
  split at hg
  · rename_i a b c d e a' b' c' d' e'
    cases hg
    unfold wpF c_isthmuslaw12_eq
    refine ⟨by simp, ?_⟩
    by_cases h1 : a = a'
    · by_cases h2 : b = b'
      · by_cases h3 : c = c'
        · by_cases h4 : d = d'
          · simp only [↓STEP, go_sem, ↓reduceIte, Nat.reduceEqDiff, Nat.reduceLeDiff, Nat.reduceLT, Nat.reduceAdd, Nat.reduceSub, Nat.reduceMul, Int.reduceLT, Int.reduceLE, Int.reduceEq, Int.reduceAdd, Int.reduceSub, Int.reduceMul, Int.reduceNeg, Int.reduceToNat, reduceCtorEq, h1, h2, h3, h4]
            exact Abs.out (by simp [eqCf]) rfl (by (repeat (first | exact Kept.refl | apply Kept.push | refine Kept.kill ?_ (by omega) | refine Kept.set ?_ (by omega))))
          · simp only [↓STEP, go_sem, ↓reduceIte, Nat.reduceEqDiff, Nat.reduceLeDiff, Nat.reduceLT, Nat.reduceAdd, Nat.reduceSub, Nat.reduceMul, Int.reduceLT, Int.reduceLE, Int.reduceEq, Int.reduceAdd, Int.reduceSub, Int.reduceMul, Int.reduceNeg, Int.reduceToNat, reduceCtorEq, h1, h2, h3, h4]
            exact Abs.out (by simp [eqCf, h4]) rfl (by (repeat (first | exact Kept.refl | apply Kept.push | refine Kept.kill ?_ (by omega) | refine Kept.set ?_ (by omega))))
        · simp only [↓STEP, go_sem, ↓reduceIte, Nat.reduceEqDiff, Nat.reduceLeDiff, Nat.reduceLT, Nat.reduceAdd, Nat.reduceSub, Nat.reduceMul, Int.reduceLT, Int.reduceLE, Int.reduceEq, Int.reduceAdd, Int.reduceSub, Int.reduceMul, Int.reduceNeg, Int.reduceToNat, reduceCtorEq, h1, h2, h3]
          exact Abs.out (by simp [eqCf, h3]) rfl (by (repeat (first | exact Kept.refl | apply Kept.push | refine Kept.kill ?_ (by omega) | refine Kept.set ?_ (by omega))))
      · simp only [↓STEP, go_sem, ↓reduceIte, Nat.reduceEqDiff, Nat.reduceLeDiff, Nat.reduceLT, Nat.reduceAdd, Nat.reduceSub, Nat.reduceMul, Int.reduceLT, Int.reduceLE, Int.reduceEq, Int.reduceAdd, Int.reduceSub, Int.reduceMul, Int.reduceNeg, Int.reduceToNat, reduceCtorEq, h1, h2]
        exact Abs.out (by simp [eqCf, h2]) rfl (by (repeat (first | exact Kept.refl | apply Kept.push | refine Kept.kill ?_ (by omega) | refine Kept.set ?_ (by omega))))
    · simp only [↓STEP, go_sem, ↓reduceIte, Nat.reduceEqDiff, Nat.reduceLeDiff, Nat.reduceLT, Nat.reduceAdd, Nat.reduceSub, Nat.reduceMul, Int.reduceLT, Int.reduceLE, Int.reduceEq, Int.reduceAdd, Int.reduceSub, Int.reduceMul, Int.reduceNeg, Int.reduceToNat, reduceCtorEq, h1]
      exact Abs.out (by simp [eqCf, h1]) rfl (by (repeat (first | exact Kept.refl | apply Kept.push | refine Kept.kill ?_ (by omega) | refine Kept.set ?_ (by omega))))
  · cases hg

theorem pairRow_inj {x y : Int × Int} (h : pairRow x = pairRow y) : x = y := by
  simp only [pairRow, List.cons.injEq, V.i.injEq, true_and, and_true] at h
  exact Prod.ext h.1 h.2
theorem rowsAt_pairs {h : H} {p : Option (Nat × Nat)} {n : Nat} {ps qs : List (Int × Int)} (h1 : rowsAt h 2 p n (ps.map pairRow)) (h2 : rowsAt h 2 p n (qs.map pairRow)) : ps = qs := by
  obtain ⟨l1, r1⟩ := h1
  obtain ⟨l2, r2⟩ := h2
  rw [List.length_map] at l1 l2
  apply List.ext_getElem (by omega)
  intro i a b
  obtain ⟨b1, s1, all1, ro1, rfl, _, g1, at1⟩ := r1.resolve_left (by omega)
  obtain ⟨b2, s2, all2, ro2, hp, _, g2, at2⟩ := r2.resolve_left (by omega)
  cases hp
  rw [g1] at g2; cases g2
  have e1 := at1 i (pairRow ps[i]) (by rw [List.getElem?_map, List.getElem?_eq_getElem a]; rfl)
  have e2 := at2 i (pairRow qs[i]) (by rw [List.getElem?_map, List.getElem?_eq_getElem b]; rfl)
  rw [e1] at e2
  exact pairRow_inj (Option.some.inj e2)
theorem gApply_eq {role a b c d e : Int} {p : Option (Nat × Nat)} {n cap : Nat} {ex : Bool} {h : H} (ps : List (Int × Int)) (hr : rowsAt h 2 p n (ps.map pairRow)) (hn : n < 9223372036854775807) :
    gApply [.i .i64 role, .agg [.i .i64 a, .i .i64 b, .i .i64 c, .i .i64 d, .i .i64 e], .sl p n cap ex] h = some (.tup [.agg (applyAll role ⟨a, b, c, d, e⟩ ⟨a, b, c, d, e⟩ ps).1.row, .i .i64 (applyAll role ⟨a, b, c, d, e⟩ ⟨a, b, c, d, e⟩ ps).2], h) := by
  unfold gApply
  simp only
  have hx : ∃ ps : List (Int × Int), rowsAt h 2 p n (ps.map pairRow) ∧ n < 9223372036854775807 := ⟨ps, hr, hn⟩
  rw [dif_pos hx]
  have := rowsAt_pairs hx.choose_spec.1 hr
  rw [this]

def confPairs (role : Int) (c : Cf) : List (Int × Int) := if role = 1 then [(1, c.a), (2, 0), (3, c.b), (4, c.c), (5, c.d), (6, c.e)] else [(1, c.a), (3, c.b), (4, c.c), (5, c.d), (6, c.e)]
theorem confRows_pairs (role a b c d e : Int) : confRows role a b c d e = (confPairs role ⟨a, b, c, d, e⟩).map pairRow := by
  unfold confRows confPairs; split <;> rfl
theorem applyAll_conf (role role' : Int) (c elder : Cf) (hm : okMay c.a c.b c.c c.d c.e = true) : applyAll role' elder elder (confPairs role c) = (c, 0) := by
  simp only [okMay, within, Bool.and_eq_true, decide_eq_true_eq] at hm
  obtain ⟨⟨⟨⟨⟨a1, a2⟩, b1, b2⟩, c1, c2⟩, d1, d2⟩, e1, e2⟩ := hm
  have w : ∀ x : Int, 0 ≤ x → x ≤ 2147483647 → within x 0 4294967295 = true := fun x h1 h2 => by simp [within]; omega
  have wa := w c.a a1 (by omega)
  have wb := w c.b b1 b2
  have wc := w c.c c1 c2
  have wd := w c.d (by omega) (by omega)
  have we := w c.e e1 e2
  have wd2 : within c.d 16384 16777215 = true := by simp [within]; omega
  have w0 : within 0 0 4294967295 = true := by decide
  have hc : ¬ 2147483647 < c.c := by omega
  unfold confPairs
  split
  · simp [applyAll, apply1, wa, wb, wc, wd, we, wd2, w0, hc]
  · simp [applyAll, apply1, wa, wb, wc, wd, we, wd2, hc]

def BackLoop (c elder : Cf) (h : H) (m : Nat) (t : Tm) (g : H) : Prop :=
  ∃ i : Nat, m = 2 - i ∧ i ≤ 2 ∧ t.v 7 = .i .i64 i ∧ t.v 6 = .sl (some (h.nx + 2, 0)) 2 2 true ∧ t.v 2 = .p (some (h.nx, 0, 0)) ∧ t.v 3 = .p (some (h.nx + 1, 0, 0)) ∧ t.v 5 = .b true ∧ h.nx + 2 < g.nx ∧
    g.get (h.nx + 2) = some (.rows 1 [[.i .i64 1], [.i .i64 2]] false) ∧ g.get h.nx = some (.rows 5 [c.row] false) ∧ g.get (h.nx + 1) = some (.rows 5 [elder.row] false)

set_option maxHeartbeats 4000000 in
theorem confBack_law {kb kl ka ke : Nat} (hb : pr.ext kb = some (xConst (.b true))) (hl : pr.ext kl = some gList) (ha : pr.ext ka = some gApply) (he : pr.ext ke = some gEq)
    (c0 c1 c2 c3 c4 d0 d1 d2 d3 d4 : Int) (h : H) : wpF pr (c_isthmuslaw12_ConfBack kb kl ka ke) [.agg [.i .i64 c0, .i .i64 c1, .i .i64 c2, .i .i64 c3, .i .i64 c4], .agg [.i .i64 d0, .i .i64 d1, .i .i64 d2, .i .i64 d3, .i .i64 d4]] h (fun v _ => v = .b true) := by
  have xb := @wpCall_ext pr kb _ hb
  have xl := @wpCall_ext pr kl _ hl
  have xa := @wpCall_ext pr ka _ ha
  have xe := @wpCall_ext pr ke _ he
  unfold wpF c_isthmuslaw12_ConfBack
  refine ⟨by simp, ?_⟩
  simp only [↓STEP, go_sem, ↓reduceIte, Nat.reduceEqDiff, Nat.reduceLeDiff, Nat.reduceLT, Nat.reduceAdd, Nat.reduceSub, Nat.reduceMul, Int.reduceLT, Int.reduceLE, Int.reduceEq, Int.reduceAdd, Int.reduceSub, Int.reduceMul, Int.reduceNeg, Int.reduceToNat, reduceCtorEq, xb, xConst_eq]
  refine wpA_loop_inv (BackLoop ⟨c0, c1, c2, c3, c4⟩ ⟨d0, d1, d2, d3, d4⟩ h) ?_ (m := 2) ?_
  · rintro m t g ⟨i, rfl, hi, e7, e6, e2, e3, e5, hn, g2, g0, g1⟩
    have n0 : ¬ h.nx = g.nx := by omega
    have n1 : ¬ h.nx + 1 = g.nx := by omega
    have n2 : ¬ h.nx + 2 = g.nx := by omega
    have k0 : ∀ k, ¬ h.nx = g.nx + k := fun k => by omega
    have k1 : ∀ k, ¬ h.nx + 1 = g.nx + k := fun k => by omega
    have k2 : ∀ k, ¬ h.nx + 2 = g.nx + k := fun k => by omega
    by_cases hm : okMay c0 c1 c2 c3 c4 = true
    · have hap : ∀ (r1 r2 : Int), applyAll r2 ⟨d0, d1, d2, d3, d4⟩ ⟨d0, d1, d2, d3, d4⟩ (confPairs r1 ⟨c0, c1, c2, c3, c4⟩) = (⟨c0, c1, c2, c3, c4⟩, 0) := fun r1 r2 => applyAll_conf r1 r2 _ _ hm
      have hcall : ∀ (r1 r2 : Int) (cap : Nat) (ex : Bool), gApply [.i .i64 r2, .agg [.i .i64 d0, .i .i64 d1, .i .i64 d2, .i .i64 d3, .i .i64 d4], .sl (some (g.nx, 0)) (confRows r1 c0 c1 c2 c3 c4).length cap ex] (g.push (.rows 2 (confRows r1 c0 c1 c2 c3 c4) false)) =
          some (.tup [.agg [.i .i64 c0, .i .i64 c1, .i .i64 c2, .i .i64 c3, .i .i64 c4], .i .i64 0], g.push (.rows 2 (confRows r1 c0 c1 c2 c3 c4) false)) := fun r1 r2 cap ex => by
        have := gApply_eq (role := r2) (a := d0) (b := d1) (c := d2) (d := d3) (e := d4) (p := some (g.nx, 0)) (n := (confRows r1 c0 c1 c2 c3 c4).length) (cap := cap) (ex := ex) (h := g.push (.rows 2 (confRows r1 c0 c1 c2 c3 c4) false)) (confPairs r1 ⟨c0, c1, c2, c3, c4⟩)
          ⟨by rw [confRows_pairs], .inr ⟨g.nx, 0, _, false, rfl, Nat.lt_succ_self _, by rw [H.get_push, if_pos rfl], fun i row hi => by rw [confRows_pairs, Nat.zero_add]; exact hi⟩⟩ (by have := confRows_len r1 c0 c1 c2 c3 c4; omega)
        rw [this, hap]; rfl
      have l1 : ∀ g', gList [.i .i64 1, .agg [.i .i64 c0, .i .i64 c1, .i .i64 c2, .i .i64 c3, .i .i64 c4]] g' = _ := fun g' => gList_pos (h := g') ⟨.inl rfl, hm⟩
      have l2 : ∀ g', gList [.i .i64 2, .agg [.i .i64 c0, .i .i64 c1, .i .i64 c2, .i .i64 c3, .i .i64 c4]] g' = _ := fun g' => gList_pos (h := g') ⟨.inr rfl, hm⟩
      have heq : eqCf ⟨c0, c1, c2, c3, c4⟩ ⟨c0, c1, c2, c3, c4⟩ = true := by simp [eqCf]
      have w1 : Go.IntKind.wrap .i64 (1 - 0) = 1 := by decide
      have w2 : Go.IntKind.wrap .i64 (1 - 1) = 0 := by decide
      have w3 : Go.IntKind.wrap .i64 1 = 1 := by decide
      have w4 : Go.IntKind.wrap .i64 0 = 0 := by decide
      have w5 : Go.IntKind.wrap .i64 2 = 2 := by decide
      match i, hi with
      | 0, _ =>
        simp only [Int.cast_ofNat_Int] at e7
        simp only [↓STEP, go_sem, ↓reduceIte, Nat.reduceEqDiff, Nat.reduceLeDiff, Nat.reduceLT, Nat.reduceAdd, Nat.reduceSub, Nat.reduceMul, Int.reduceLT, Int.reduceLE, Int.reduceEq, Int.reduceAdd, Int.reduceSub, Int.reduceMul, Int.reduceNeg, Int.reduceToNat, reduceCtorEq, xl, xa, xe, e7, e6, e2, e3, e5, g2, g0, g1, row_eq, l1, hcall, w1, w2, w3, w4, w5, n0, n1, n2, k0, k1, k2, gEq_eq, heq]
        refine ⟨_, by omega, 1, rfl, by omega, by simp [v_pd, v_pd0, w3, w5], by simp [v_pd, v_pd0, e6], by simp [v_pd, v_pd0, e2], by simp [v_pd, v_pd0, e3], by simp [v_pd, v_pd0, e5], ?_, ?_, ?_, ?_⟩
        · simp only [nx_push, nx_set]; omega
        · simp only [H.get_push, H.get_set, nx_push, k2, n2, Nat.add_assoc, if_false]; exact g2
        · simp only [H.get_push, H.get_set, nx_push, k0, n0, Nat.add_assoc, if_false]; exact g0
        · simp only [H.get_push, H.get_set, nx_push, k1, n1, Nat.add_assoc, if_false]; exact g1
      | 1, _ =>
        simp only [Int.cast_ofNat_Int] at e7
        simp only [↓STEP, go_sem, ↓reduceIte, Nat.reduceEqDiff, Nat.reduceLeDiff, Nat.reduceLT, Nat.reduceAdd, Nat.reduceSub, Nat.reduceMul, Int.reduceLT, Int.reduceLE, Int.reduceEq, Int.reduceAdd, Int.reduceSub, Int.reduceMul, Int.reduceNeg, Int.reduceToNat, reduceCtorEq, xl, xa, xe, e7, e6, e2, e3, e5, g2, g0, g1, row_eq, l2, hcall, w1, w2, w3, w4, w5, n0, n1, n2, k0, k1, k2, gEq_eq, heq]
        refine ⟨_, by omega, 2, rfl, by omega, by simp [v_pd, v_pd0, w3, w5], by simp [v_pd, v_pd0, e6], by simp [v_pd, v_pd0, e2], by simp [v_pd, v_pd0, e3], by simp [v_pd, v_pd0, e5], ?_, ?_, ?_, ?_⟩
        · simp only [nx_push, nx_set]; omega
        · simp only [H.get_push, H.get_set, nx_push, k2, n2, Nat.add_assoc, if_false]; exact g2
        · simp only [H.get_push, H.get_set, nx_push, k0, n0, Nat.add_assoc, if_false]; exact g0
        · simp only [H.get_push, H.get_set, nx_push, k1, n1, Nat.add_assoc, if_false]; exact g1
      | 2, _ =>
        simp only [Int.cast_ofNat_Int] at e7
        simp only [↓STEP, go_sem, ↓reduceIte, Nat.reduceEqDiff, Nat.reduceLeDiff, Nat.reduceLT, Nat.reduceAdd, Nat.reduceSub, Nat.reduceMul, Int.reduceLT, Int.reduceLE, Int.reduceEq, Int.reduceAdd, Int.reduceSub, Int.reduceMul, Int.reduceNeg, Int.reduceToNat, reduceCtorEq, e7, e5]
    · have l1 : ∀ r g', gList [.i .i64 r, .agg [.i .i64 c0, .i .i64 c1, .i .i64 c2, .i .i64 c3, .i .i64 c4]] g' = _ := fun r g' => gList_neg (h := g') (fun hh => hm hh.2)
      match i, hi with
      | 0, _ =>
        simp only [Int.cast_ofNat_Int] at e7
        simp only [↓STEP, go_sem, ↓reduceIte, Nat.reduceEqDiff, Nat.reduceLeDiff, Nat.reduceLT, Nat.reduceAdd, Nat.reduceSub, Nat.reduceMul, Int.reduceLT, Int.reduceLE, Int.reduceEq, Int.reduceAdd, Int.reduceSub, Int.reduceMul, Int.reduceNeg, Int.reduceToNat, reduceCtorEq, xl, e7, e6, e2, e3, e5, g2, g0, g1, row_eq, l1, n0, n1, n2]
      | 1, _ =>
        simp only [Int.cast_ofNat_Int] at e7
        simp only [↓STEP, go_sem, ↓reduceIte, Nat.reduceEqDiff, Nat.reduceLeDiff, Nat.reduceLT, Nat.reduceAdd, Nat.reduceSub, Nat.reduceMul, Int.reduceLT, Int.reduceLE, Int.reduceEq, Int.reduceAdd, Int.reduceSub, Int.reduceMul, Int.reduceNeg, Int.reduceToNat, reduceCtorEq, xl, e7, e6, e2, e3, e5, g2, g0, g1, row_eq, l1, n0, n1, n2]
      | 2, _ =>
        simp only [Int.cast_ofNat_Int] at e7
        simp only [↓STEP, go_sem, ↓reduceIte, Nat.reduceEqDiff, Nat.reduceLeDiff, Nat.reduceLT, Nat.reduceAdd, Nat.reduceSub, Nat.reduceMul, Int.reduceLT, Int.reduceLE, Int.reduceEq, Int.reduceAdd, Int.reduceSub, Int.reduceMul, Int.reduceNeg, Int.reduceToNat, reduceCtorEq, e7, e5]
  · refine ⟨0, rfl, by omega, ?_, ?_, ?_, ?_, ?_, ?_, ?_, ?_, ?_⟩
    all_goals (try simp only [↓STEP, go_sem, ↓reduceIte, Nat.reduceEqDiff, Nat.reduceLeDiff, Nat.reduceLT, Nat.reduceAdd, Nat.reduceSub, Nat.reduceMul, Int.reduceLT, Int.reduceLE, Int.reduceEq, Int.reduceAdd, Int.reduceSub, Int.reduceMul, Int.reduceNeg, Int.reduceToNat, reduceCtorEq]; try rfl)
    all_goals (try omega)
end Am
