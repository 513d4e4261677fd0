/- Script texts: fields read, in the document. -/
import Derived.Test.YtjcchmmmbegamaaDoorScr4
namespace Am
set_option linter.unusedVariables false
set_option linter.unusedSimpArgs false
set_option maxRecDepth 20000
set_option maxHeartbeats 4000000
variable {pr : Prog}

theorem tlF_suf : ∀ (n : Nat) (acc s t r : List UInt8), s.length ≤ n → tlF acc s = some (t, r) → r <:+ s
  | n, acc, [], t, r, hn, h => by rw [tlF_nil] at h; cases h
  | 0, acc, c :: s, t, r, hn, h => by simp at hn
  | n + 1, acc, c :: s, t, r, hn, h => by
    rw [tlF_cons] at h
    simp only [List.length_cons, Nat.add_le_add_iff_right] at hn
    by_cases h1 : c = 34
    · rw [if_pos h1] at h; cases h; exact List.suffix_cons _ _
    · rw [if_neg h1] at h
      by_cases h2 : plainB c = true
      · rw [if_pos h2] at h
        exact (tlF_suf n _ _ _ _ hn h).trans (List.suffix_cons _ _)
      · rw [if_neg h2] at h
        by_cases h3 : c = 92
        · rw [if_pos h3] at h
          unfold tlE at h
          split at h
          · rename_i x y r'
            split at h
            · split at h
              · cases h
              · exact (tlF_suf n _ _ _ _ (by simp at hn; omega) h).trans (((List.suffix_cons _ _).trans (List.suffix_cons _ _)).trans (List.suffix_cons _ _))
            · cases h
          · cases h
        · rw [if_neg h3] at h; cases h
theorem cutF_suf {s t r : List UInt8} (h : cutF s = some (t, r)) : r <:+ s := by
  unfold cutF at h
  split at h
  · split at h
    · exact (tlF_suf _ _ _ _ _ (Nat.le_refl _) h).trans (List.suffix_cons _ _)
    · cases h
  · cases h
theorem suf_drop {l r : List UInt8} (h : r <:+ l) : l.drop (l.length - r.length) = r := by
  obtain ⟨p, rfl⟩ := h
  simp
theorem drop_at {l r : List UInt8} {k : Nat} {c : UInt8} (h : l.drop k = c :: r) : l[k]? = some c ∧ l.drop (k + 1) = r ∧ k + r.length + 1 = l.length := by
  refine ⟨?_, ?_, ?_⟩
  · have := congrArg (·[0]?) h
    simpa using this
  · rw [← List.tail_drop, h]; rfl
  · have := congrArg List.length h
    simp at this; omega

def RRLoop (h : H) (l : List UInt8) (R : Option (List Fd)) (m : Nat) (t : Tm) (g : H) : Prop :=
  ∃ k a n ex fs, m = l.length - k ∧ k ≤ l.length ∧ fs.length ≤ k ∧ t.v 0 = .s l ∧ t.v 5 = .i .i64 (k : Nat) ∧ t.v 4 = .sl a n n ex ∧ OutR h g 3 a n ex (fs.map Fd.row) ∧ (rfF ((l.drop k).length + 1) (l.drop k)).map (fs ++ ·) = R
theorem readFieldsR_ok {kt : Nat} (ho : pr.ext kt = some gTextR) : OkF pr (c_isthmusref23_ReadFields kt) gRF := by
  intro ys h v h' hg
  unfold gRF at hg
  split at hg
  case h_2 => cases hg
  rename_i l
  split at hg
  case isFalse => cases hg
  rename_i hbig
  have e1 : v = (fieldsV h (readF l)).1 := by rw [Option.some.inj hg]
  have e2 : h' = (fieldsV h (readF l)).2 := by rw [Option.some.inj hg]
  clear hg
  subst e1 e2
  unfold wpF c_isthmusref23_ReadFields
  refine ⟨by simp, ?_⟩
  have hc0 := @wpCall_ext pr kt gTextR ho
  by_cases h45 : l = [45]
  · subst h45
    simp only [↓STEP, SB, looked, behind, lookOk, AAct.kind, AOp.kind, wpRes, evRes, resV, AOp.ev, bin, binI, binS, shiftI, eqV, un, bound, boundO, fill, fillRows, aggOf, keyEq, findKey, putKey, V.cells, V.flat, byteOf, bytesOf, rdOf, H.wr, H.kOf, splice, isYl, ↓reduceIte, Nat.reduceEqDiff, Nat.reduceLeDiff, Nat.reduceLT, Nat.reduceAdd, Nat.reduceSub, Nat.reduceMul, Int.reduceLT, Int.reduceLE, Int.reduceEq, Int.reduceAdd, Int.reduceSub, Int.reduceMul, Int.reduceNeg, Int.reduceToNat, reduceCtorEq]
    exact Abs.out rfl rfl Kept.refl
  · have hR : readF l = rfF (l.length + 1) l := by unfold readF; rw [if_neg h45]
    rw [hR]
    simp only [↓STEP, SB, looked, behind, lookOk, AAct.kind, AOp.kind, wpRes, evRes, resV, AOp.ev, bin, binI, binS, shiftI, eqV, un, bound, boundO, fill, fillRows, aggOf, keyEq, findKey, putKey, V.cells, V.flat, byteOf, bytesOf, rdOf, H.wr, H.kOf, splice, isYl, ↓reduceIte, Nat.reduceEqDiff, Nat.reduceLeDiff, Nat.reduceLT, Nat.reduceAdd, Nat.reduceSub, Nat.reduceMul, Int.reduceLT, Int.reduceLE, Int.reduceEq, Int.reduceAdd, Int.reduceSub, Int.reduceMul, Int.reduceNeg, Int.reduceToNat, reduceCtorEq, h45]
    refine wpA_loop_inv (RRLoop h l (rfF (l.length + 1) l)) ?_ (m := l.length) ?_
    · rintro m t g ⟨k, a, n, ex, fs, rfl, hk, hfk, e0, e5, e4, o, hT⟩
      have hnl := o.len
      rw [List.length_map] at hnl
      have hx : ∀ g', gTextR [.s l, .i .i64 (k : Int)] g' = some (textV l.length (cutF (l.drop k)), g') := fun g' => gTextR_eq hbig
      rw [rfF] at hT
      unfold oneF at hT
      have bad : ∀ (X : H), Kept g X → Abs h (V.tup [V.sl none 0 0 true, V.i Go.IntKind.i64 12]) X (fieldsV h none).1 (fieldsV h none).2 := fun X hX => Abs.out rfl rfl (o.kept.trans hX)
      cases hC : cutF (l.drop k) with
      | none =>
        rw [hC] at hx hT
        simp only [Option.map_none] at hT
        rw [← hT]
        simp only [↓STEP, SB, looked, behind, lookOk, AAct.kind, AOp.kind, wpRes, evRes, resV, AOp.ev, bin, binI, binS, shiftI, eqV, un, bound, boundO, fill, fillRows, aggOf, keyEq, findKey, putKey, V.cells, V.flat, byteOf, bytesOf, rdOf, H.wr, H.kOf, splice, isYl, ↓reduceIte, Nat.reduceEqDiff, Nat.reduceLeDiff, Nat.reduceLT, Nat.reduceAdd, Nat.reduceSub, Nat.reduceMul, Int.reduceLT, Int.reduceLE, Int.reduceEq, Int.reduceAdd, Int.reduceSub, Int.reduceMul, Int.reduceNeg, Int.reduceToNat, reduceCtorEq, e0, e5, e4, hc0, hx, textV, H.get_set]
        exact bad _ (by (repeat (first | exact Kept.refl | apply Kept.push | refine Kept.kill ?_ (by omega) | refine Kept.set ?_ (by omega))))
      | some p =>
        obtain ⟨fn, r⟩ := p
        rw [hC] at hx hT
        have hl1 := cutF_len hC
        rw [List.length_drop] at hl1
        have hsr := suf_drop ((cutF_suf hC).trans (List.drop_suffix _ _))
        simp only [textV] at hx
        generalize hk1 : l.length - r.length = k1 at *
        have hneg : ¬ (k1 : Int) < 0 := by omega
        cases r with
        | nil =>
          simp only [Option.map_none] at hT
          rw [← hT]
          have hk1' : k1 = l.length := by rw [← hk1]; simp
          have hge : (l.length : Int) ≤ (k1 : Int) := by omega
          simp only [↓STEP, SB, looked, behind, lookOk, AAct.kind, AOp.kind, wpRes, evRes, resV, AOp.ev, bin, binI, binS, shiftI, eqV, un, bound, boundO, fill, fillRows, aggOf, keyEq, findKey, putKey, V.cells, V.flat, byteOf, bytesOf, rdOf, H.wr, H.kOf, splice, isYl, ↓reduceIte, Nat.reduceEqDiff, Nat.reduceLeDiff, Nat.reduceLT, Nat.reduceAdd, Nat.reduceSub, Nat.reduceMul, Int.reduceLT, Int.reduceLE, Int.reduceEq, Int.reduceAdd, Int.reduceSub, Int.reduceMul, Int.reduceNeg, Int.reduceToNat, reduceCtorEq, e0, e5, e4, hc0, hx, hneg, hge, H.get_set]
          exact bad _ (by (repeat (first | exact Kept.refl | apply Kept.push | refine Kept.kill ?_ (by omega) | refine Kept.set ?_ (by omega))))
        | cons c r =>
          simp only [List.length_cons] at hl1
          obtain ⟨hc1, hd1, hln⟩ := drop_at hsr
          have hge : ¬ (l.length : Int) ≤ (k1 : Int) := by omega
          simp only at hT
          by_cases h61 : c = 61
          · have d61 : decide (¬ (c.toNat : Int) = 61) = false := by rw [h61]; decide
            rw [if_pos h61] at hT
            have w1 : Go.IntKind.wrap .i64 ((k1 : Int) + 1) = ((k1 + 1 : Nat) : Int) := wrap_i64 (by omega) (by omega)
            have hx1 : ∀ g', gTextR [.s l, .i .i64 ((k1 + 1 : Nat) : Int)] g' = some (textV l.length (cutF r), g') := fun g' => by rw [gTextR_eq hbig, hd1]
            cases hC2 : cutF r with
            | none =>
              rw [hC2] at hx1 hT
              simp only [textV] at hx1
              simp only [Option.map_none] at hT
              rw [← hT]
              simp only [↓STEP, SB, looked, behind, lookOk, AAct.kind, AOp.kind, wpRes, evRes, resV, AOp.ev, bin, binI, binS, shiftI, eqV, un, bound, boundO, fill, fillRows, aggOf, keyEq, findKey, putKey, V.cells, V.flat, byteOf, bytesOf, rdOf, H.wr, H.kOf, splice, isYl, ↓reduceIte, Nat.reduceEqDiff, Nat.reduceLeDiff, Nat.reduceLT, Nat.reduceAdd, Nat.reduceSub, Nat.reduceMul, Int.reduceLT, Int.reduceLE, Int.reduceEq, Int.reduceAdd, Int.reduceSub, Int.reduceMul, Int.reduceNeg, Int.reduceToNat, reduceCtorEq, e0, e5, e4, hc0, hx, hneg, hge, hc1, d61, w1, hx1, H.get_set]
              exact bad _ (by (repeat (first | exact Kept.refl | apply Kept.push | refine Kept.kill ?_ (by omega) | refine Kept.set ?_ (by omega))))
            | some p2 =>
              obtain ⟨fv, r2⟩ := p2
              rw [hC2] at hx1 hT
              simp only [textV] at hx1
              have hl2 := cutF_len hC2
              have hsr2 := suf_drop ((cutF_suf hC2).trans ((List.suffix_cons c r).trans (hsr ▸ List.drop_suffix _ _)))
              have hk2 : l.length - r2.length + r2.length = l.length := by omega
              have hk2l : k1 < l.length - r2.length := by omega
              generalize l.length - r2.length = k2 at *
              have hneg2 : ¬ (k2 : Int) < 0 := by omega
              have hk0 : ∀ z, Kept g ((((g.push (.rows 3 [[.s [], .s [], .b false]] false)).set g.nx (.rows 3 [[.s fn, .s [], .b false]] false)).set g.nx (.rows 3 [[.s fn, .s fv, .b false]] false)).set g.nx (.rows 3 [[.s fn, .s fv, .b z]] false)) := fun z => by (repeat (first | exact Kept.refl | apply Kept.push | refine Kept.kill ?_ (by omega) | refine Kept.set ?_ (by omega)))
              cases r2 with
              | nil =>
                have hge2 : ¬ (k2 : Int) < (l.length : Int) := by simp at hk2; omega
                have heq2 : (k2 : Int) = (l.length : Int) := by simp at hk2; omega
                have hkA : Kept g ((((g.push (.rows 3 [[.s [], .s [], .b false]] false)).set g.nx (.rows 3 [[.s fn, .s [], .b false]] false)).set g.nx (.rows 3 [[.s fn, .s fv, .b false]] false))) := by (repeat (first | exact Kept.refl | apply Kept.push | refine Kept.kill ?_ (by omega) | refine Kept.set ?_ (by omega)))
                obtain ⟨b', g', e1, o'⟩ := (o.keepR hkA).app1 (.rows 3 [[.s fn, .s fv, .b false]] false) 40 [.s fn, .s fv, .b false] (by omega) (by omega) (by omega)
                have hr1 : (((((g.push (.rows 3 [[.s [], .s [], .b false]] false)).set g.nx (.rows 3 [[.s fn, .s [], .b false]] false)).set g.nx (.rows 3 [[.s fn, .s fv, .b false]] false))).push (.rows 3 [[.s fn, .s fv, .b false]] false)).rseg 3 (some (g.nx + 1, 0)) 1 = some [[.s fn, .s fv, .b false]] := rseg_tmp1 _ 3 [.s fn, .s fv, .b false]
                have hmap : (fs ++ [(⟨fn, fv, false⟩ : Fd)]).map Fd.row = fs.map Fd.row ++ [[.s fn, .s fv, .b false]] := by rw [List.map_append]; rfl
                rw [← hmap] at o'
                simp only [Option.map_some] at hT
                rw [← hT]
                have deq := decide_eq_true heq2
                simp only [↓STEP, SB, looked, behind, lookOk, AAct.kind, AOp.kind, wpRes, evRes, resV, AOp.ev, bin, binI, binS, shiftI, eqV, un, bound, boundO, fill, fillRows, aggOf, keyEq, findKey, putKey, V.cells, V.flat, byteOf, bytesOf, rdOf, H.wr, H.kOf, splice, isYl, ↓reduceIte, Nat.reduceEqDiff, Nat.reduceLeDiff, Nat.reduceLT, Nat.reduceAdd, Nat.reduceSub, Nat.reduceMul, Int.reduceLT, Int.reduceLE, Int.reduceEq, Int.reduceAdd, Int.reduceSub, Int.reduceMul, Int.reduceNeg, Int.reduceToNat, reduceCtorEq, e0, e5, e4, hc0, hx, hneg, hge, hc1, d61, w1, hx1, hneg2, hge2, deq, H.get_set, hr1, e1]
                exact fieldsV_abs o'
              | cons c2 r2 =>
                simp only [List.length_cons] at hk2 hl2
                obtain ⟨hc2, hd2, hln2⟩ := drop_at hsr2
                have hlt2 : (k2 : Int) < (l.length : Int) := by omega
                simp only at hT
                have w2 : Go.IntKind.wrap .i64 ((k2 : Int) + 1) = ((k2 + 1 : Nat) : Int) := wrap_i64 (by omega) (by omega)
                rw [List.length_drop] at hT
                by_cases h33 : c2 = 33
                · have d33 : decide ((c2.toNat : Int) = 33) = true := by rw [h33]; decide
                  rw [if_pos h33] at hT
                  have hkA : Kept g (((((g.push (.rows 3 [[.s [], .s [], .b false]] false)).set g.nx (.rows 3 [[.s fn, .s [], .b false]] false)).set g.nx (.rows 3 [[.s fn, .s fv, .b false]] false))).set g.nx (.rows 3 [[.s fn, .s fv, .b true]] false)) := by (repeat (first | exact Kept.refl | apply Kept.push | refine Kept.kill ?_ (by omega) | refine Kept.set ?_ (by omega)))
                  obtain ⟨b', g', e1, o'⟩ := (o.keepR hkA).app1 (.rows 3 [[.s fn, .s fv, .b true]] false) 40 [.s fn, .s fv, .b true] (by omega) (by omega) (by omega)
                  have hr1 : ((((((g.push (.rows 3 [[.s [], .s [], .b false]] false)).set g.nx (.rows 3 [[.s fn, .s [], .b false]] false)).set g.nx (.rows 3 [[.s fn, .s fv, .b false]] false))).set g.nx (.rows 3 [[.s fn, .s fv, .b true]] false)).push (.rows 3 [[.s fn, .s fv, .b true]] false)).rseg 3 (some (g.nx + 1, 0)) 1 = some [[.s fn, .s fv, .b true]] := rseg_tmp1 _ 3 [.s fn, .s fv, .b true]
                  have hmap : (fs ++ [(⟨fn, fv, true⟩ : Fd)]).map Fd.row = fs.map Fd.row ++ [[.s fn, .s fv, .b true]] := by rw [List.map_append]; rfl
                  rw [← hmap] at o'
                  cases r2 with
                  | nil =>
                    simp only [Option.map_some] at hT
                    rw [← hT]
                    simp only [List.length_nil] at hk2
                    have deq : decide (((k2 + 1 : Nat) : Int) = (l.length : Int)) = true := decide_eq_true (by omega)
                    simp only [↓STEP, SB, looked, behind, lookOk, AAct.kind, AOp.kind, wpRes, evRes, resV, AOp.ev, bin, binI, binS, shiftI, eqV, un, bound, boundO, fill, fillRows, aggOf, keyEq, findKey, putKey, V.cells, V.flat, byteOf, bytesOf, rdOf, H.wr, H.kOf, splice, isYl, ↓reduceIte, Nat.reduceEqDiff, Nat.reduceLeDiff, Nat.reduceLT, Nat.reduceAdd, Nat.reduceSub, Nat.reduceMul, Int.reduceLT, Int.reduceLE, Int.reduceEq, Int.reduceAdd, Int.reduceSub, Int.reduceMul, Int.reduceNeg, Int.reduceToNat, reduceCtorEq, e0, e5, e4, hc0, hx, hneg, hge, hc1, d61, w1, hx1, hneg2, hlt2, hc2, d33, w2, deq, H.get_set, hr1, e1]
                    exact fieldsV_abs o'
                  | cons c3 r3 =>
                    simp only [List.length_cons] at hk2 hln2
                    obtain ⟨hc3, hd3, hln3⟩ := drop_at hd2
                    simp only at hT
                    have deq : decide (((k2 + 1 : Nat) : Int) = (l.length : Int)) = false := decide_eq_false (by omega)
                    have w3 : Go.IntKind.wrap .i64 (((k2 + 1 : Nat) : Int) + 1) = ((k2 + 1 + 1 : Nat) : Int) := wrap_i64 (by omega) (by omega)
                    by_cases h44 : c3 = 44
                    · have d44 : decide (¬ (c3.toNat : Int) = 44) = false := by rw [h44]; decide
                      rw [if_pos h44] at hT
                      simp only [↓STEP, SB, looked, behind, lookOk, AAct.kind, AOp.kind, wpRes, evRes, resV, AOp.ev, bin, binI, binS, shiftI, eqV, un, bound, boundO, fill, fillRows, aggOf, keyEq, findKey, putKey, V.cells, V.flat, byteOf, bytesOf, rdOf, H.wr, H.kOf, splice, isYl, ↓reduceIte, Nat.reduceEqDiff, Nat.reduceLeDiff, Nat.reduceLT, Nat.reduceAdd, Nat.reduceSub, Nat.reduceMul, Int.reduceLT, Int.reduceLE, Int.reduceEq, Int.reduceAdd, Int.reduceSub, Int.reduceMul, Int.reduceNeg, Int.reduceToNat, reduceCtorEq, e0, e5, e4, hc0, hx, hneg, hge, hc1, d61, w1, hx1, hneg2, hlt2, hc2, d33, w2, w3, deq, hc3, d44, H.get_set, hr1, e1]
                      refine ⟨_, ?_, k2 + 1 + 1, _, _, _, fs ++ [⟨fn, fv, true⟩], rfl, by omega, by simp; omega, by simp [v_pd, v_pd0, e0], by simp [v_pd, v_pd0]; try omega, by simp [v_pd, v_pd0]; try exact ⟨rfl, rfl, rfl⟩, o', ?_⟩
                      · omega
                      · rw [hd3, ← hT, rfF_fuel (r3.length + 1) (l.length - k) r3 (by omega) (by omega), Option.map_map]
                        congr 1
                        funext x
                        simp
                    · have d44 : decide (¬ (c3.toNat : Int) = 44) = true := decide_eq_true fun hh => h44 (UInt8.toNat_inj.1 (by show c3.toNat = 44; omega))
                      rw [if_neg h44] at hT
                      simp only [Option.map_none] at hT
                      rw [← hT]
                      simp only [↓STEP, SB, looked, behind, lookOk, AAct.kind, AOp.kind, wpRes, evRes, resV, AOp.ev, bin, binI, binS, shiftI, eqV, un, bound, boundO, fill, fillRows, aggOf, keyEq, findKey, putKey, V.cells, V.flat, byteOf, bytesOf, rdOf, H.wr, H.kOf, splice, isYl, ↓reduceIte, Nat.reduceEqDiff, Nat.reduceLeDiff, Nat.reduceLT, Nat.reduceAdd, Nat.reduceSub, Nat.reduceMul, Int.reduceLT, Int.reduceLE, Int.reduceEq, Int.reduceAdd, Int.reduceSub, Int.reduceMul, Int.reduceNeg, Int.reduceToNat, reduceCtorEq, e0, e5, e4, hc0, hx, hneg, hge, hc1, d61, w1, hx1, hneg2, hlt2, hc2, d33, w2, w3, deq, hc3, d44, H.get_set, hr1, e1]
                      exact Abs.out rfl rfl o'.kept
                · have d33 : decide ((c2.toNat : Int) = 33) = false := decide_eq_false fun hh => h33 (UInt8.toNat_inj.1 (by show c2.toNat = 33; omega))
                  rw [if_neg h33] at hT
                  have hkA : Kept g ((((g.push (.rows 3 [[.s [], .s [], .b false]] false)).set g.nx (.rows 3 [[.s fn, .s [], .b false]] false)).set g.nx (.rows 3 [[.s fn, .s fv, .b false]] false))) := by (repeat (first | exact Kept.refl | apply Kept.push | refine Kept.kill ?_ (by omega) | refine Kept.set ?_ (by omega)))
                  obtain ⟨b', g', e1, o'⟩ := (o.keepR hkA).app1 (.rows 3 [[.s fn, .s fv, .b false]] false) 40 [.s fn, .s fv, .b false] (by omega) (by omega) (by omega)
                  have hr1 : (((((g.push (.rows 3 [[.s [], .s [], .b false]] false)).set g.nx (.rows 3 [[.s fn, .s [], .b false]] false)).set g.nx (.rows 3 [[.s fn, .s fv, .b false]] false))).push (.rows 3 [[.s fn, .s fv, .b false]] false)).rseg 3 (some (g.nx + 1, 0)) 1 = some [[.s fn, .s fv, .b false]] := rseg_tmp1 _ 3 [.s fn, .s fv, .b false]
                  have hmap : (fs ++ [(⟨fn, fv, false⟩ : Fd)]).map Fd.row = fs.map Fd.row ++ [[.s fn, .s fv, .b false]] := by rw [List.map_append]; rfl
                  rw [← hmap] at o'
                  simp only at hT
                  have deq : decide ((k2 : Int) = (l.length : Int)) = false := decide_eq_false (by omega)
                  by_cases h44 : c2 = 44
                  · have d44 : decide (¬ (c2.toNat : Int) = 44) = false := by rw [h44]; decide
                    rw [if_pos h44] at hT
                    simp only [↓STEP, SB, looked, behind, lookOk, AAct.kind, AOp.kind, wpRes, evRes, resV, AOp.ev, bin, binI, binS, shiftI, eqV, un, bound, boundO, fill, fillRows, aggOf, keyEq, findKey, putKey, V.cells, V.flat, byteOf, bytesOf, rdOf, H.wr, H.kOf, splice, isYl, ↓reduceIte, Nat.reduceEqDiff, Nat.reduceLeDiff, Nat.reduceLT, Nat.reduceAdd, Nat.reduceSub, Nat.reduceMul, Int.reduceLT, Int.reduceLE, Int.reduceEq, Int.reduceAdd, Int.reduceSub, Int.reduceMul, Int.reduceNeg, Int.reduceToNat, reduceCtorEq, e0, e5, e4, hc0, hx, hneg, hge, hc1, d61, w1, hx1, hneg2, hlt2, hc2, d33, w2, deq, d44, H.get_set, hr1, e1]
                    refine ⟨_, ?_, k2 + 1, _, _, _, fs ++ [⟨fn, fv, false⟩], rfl, by omega, by simp; omega, by simp [v_pd, v_pd0, e0], by simp [v_pd, v_pd0]; try omega, by simp [v_pd, v_pd0]; try exact ⟨rfl, rfl, rfl⟩, o', ?_⟩
                    · omega
                    · rw [hd2, ← hT, rfF_fuel (r2.length + 1) (l.length - k) r2 (by omega) (by omega), Option.map_map]
                      congr 1
                      funext x
                      simp
                  · have d44 : decide (¬ (c2.toNat : Int) = 44) = true := decide_eq_true fun hh => h44 (UInt8.toNat_inj.1 (by show c2.toNat = 44; omega))
                    rw [if_neg h44] at hT
                    simp only [Option.map_none] at hT
                    rw [← hT]
                    simp only [↓STEP, SB, looked, behind, lookOk, AAct.kind, AOp.kind, wpRes, evRes, resV, AOp.ev, bin, binI, binS, shiftI, eqV, un, bound, boundO, fill, fillRows, aggOf, keyEq, findKey, putKey, V.cells, V.flat, byteOf, bytesOf, rdOf, H.wr, H.kOf, splice, isYl, ↓reduceIte, Nat.reduceEqDiff, Nat.reduceLeDiff, Nat.reduceLT, Nat.reduceAdd, Nat.reduceSub, Nat.reduceMul, Int.reduceLT, Int.reduceLE, Int.reduceEq, Int.reduceAdd, Int.reduceSub, Int.reduceMul, Int.reduceNeg, Int.reduceToNat, reduceCtorEq, e0, e5, e4, hc0, hx, hneg, hge, hc1, d61, w1, hx1, hneg2, hlt2, hc2, d33, w2, deq, d44, H.get_set, hr1, e1]
                    exact Abs.out rfl rfl o'.kept
          · have d61 : decide (¬ (c.toNat : Int) = 61) = true := decide_eq_true fun hh => h61 (UInt8.toNat_inj.1 (by show c.toNat = 61; omega))
            rw [if_neg h61] at hT
            simp only [Option.map_none] at hT
            rw [← hT]
            simp only [↓STEP, SB, looked, behind, lookOk, AAct.kind, AOp.kind, wpRes, evRes, resV, AOp.ev, bin, binI, binS, shiftI, eqV, un, bound, boundO, fill, fillRows, aggOf, keyEq, findKey, putKey, V.cells, V.flat, byteOf, bytesOf, rdOf, H.wr, H.kOf, splice, isYl, ↓reduceIte, Nat.reduceEqDiff, Nat.reduceLeDiff, Nat.reduceLT, Nat.reduceAdd, Nat.reduceSub, Nat.reduceMul, Int.reduceLT, Int.reduceLE, Int.reduceEq, Int.reduceAdd, Int.reduceSub, Int.reduceMul, Int.reduceNeg, Int.reduceToNat, reduceCtorEq, e0, e5, e4, hc0, hx, hneg, hge, hc1, d61, H.get_set]
            exact bad _ (by (repeat (first | exact Kept.refl | apply Kept.push | refine Kept.kill ?_ (by omega) | refine Kept.set ?_ (by omega))))
    · exact ⟨0, none, 0, true, [], rfl, by simp, by simp, by simp [v_pd, v_args_cons], by simp [v_pd], by simp [v_pd], OutR.nil h 3, by simp⟩
end Am
