/- What the document's layer 'field' answers of lists: the same. -/
import Derived.Test.YtibmhhdgcbaofaaDoorField10
namespace Am
set_option linter.unusedVariables false
set_option linter.unusedSimpArgs false
set_option maxRecDepth 20000
set_option maxHeartbeats 8000000
variable {pr : Prog}

theorem gList_eq {h : H} {p q : Option (Nat × Nat)} {n cap m cap2 : Nat} {ex ex2 : Bool} {fs : List Fd} {ps : List (List UInt8)} (hr : readRows Fd.row h 3 p n = some fs) (hp : readRows sRow h 1 q m = some ps) (h4 : ps.length ≤ 4) {cs : List Bool} (hl : lsF ps (ps.map fun _ => false) false fs = some cs) :
    gList [.sl p n cap ex, .sl q m cap2 ex2] h = some (.tup [.sl (some (h.nx, 0)) ps.length ps.length true, .b true], h.push (.rows 1 (cs.map cRow) false)) := by
  simp only [gList, hr, hp, Option.bind_some, if_pos h4, hl]
theorem gList_none {h : H} {p q : Option (Nat × Nat)} {n cap m cap2 : Nat} {ex ex2 : Bool} {fs : List Fd} {ps : List (List UInt8)} (hr : readRows Fd.row h 3 p n = some fs) (hp : readRows sRow h 1 q m = some ps) (h4 : ps.length ≤ 4) (hl : lsF ps (ps.map fun _ => false) false fs = none) :
    gList [.sl p n cap ex, .sl q m cap2 ex2] h = some (.tup [.sl none 0 0 true, .b false], h) := by
  simp only [gList, hr, hp, Option.bind_some, if_pos h4, hl]
theorem readRows_kept {h g : H} {p : Option (Nat × Nat)} {n : Nat} {fs : List Fd} (hr : readRows Fd.row h 3 p n = some fs) (hk : Kept h g) : readRows Fd.row g 3 p n = some fs :=
  readRows_eq Fd.row_inj (rowsIn_kept (readRows_spec hr).1 hk) (readRows_spec hr).2
theorem readS {h : H} {ps : List (List UInt8)} (hp : ps.length < 9223372036854775808) {ro : Bool} : readRows sRow (h.push (.rows 1 (ps.map sRow) ro)) 1 (some (h.nx, 0)) ps.length = some ps := by
  refine readRows_eq sRow_inj ⟨by simp, .inr ⟨h.nx, 0, ps.map sRow, ro, rfl, by show h.nx < h.nx + 1; omega, by rw [H.get_push, if_pos rfl], fun i row hi => by rw [Nat.zero_add]; exact hi⟩⟩ hp
theorem lsF_len {ps : List (List UInt8)} : ∀ (fs : List Fd) (cs : List Bool) (reg : Bool) (cs' : List Bool), lsF ps cs reg fs = some cs' → cs'.length = cs.length
  | [], cs, reg, cs', h => by cases h; rfl
  | f :: fs, cs, reg, cs', h => by
    simp only [lsF] at h
    split at h
    · cases h
    split at h
    · split at h
      · cases h
      · rw [lsF_len fs _ _ _ h, List.length_set]
    · split at h
      · exact lsF_len fs _ _ _ h
      · cases h
theorem rtrailers_ok {kl : Nat} (hl : pr.ext kl = some gList) : OkF pr (c_isthmusref3_Trailers kl) (gTell fun m => decide (m.length = 0)) := by
  intro as h v h' hg
  have hg0 := hg
  unfold gTell at hg0
  split at hg0
  · rename_i p n cap ex
    clear hg0
    rw [gTell_eq] at hg
    obtain ⟨fs, hfs, hg2⟩ := Option.bind_eq_some_iff.1 hg
    cases hg2
    have hc := @wpCall_ext pr kl _ hl
    have he : readRows sRow h 1 none 0 = some [] := readRows_eq sRow_inj ⟨rfl, .inl rfl⟩ (by decide)
    rw [trailers_eq]
    unfold tellR
    unfold wpF c_isthmusref3_Trailers
    refine ⟨by simp, ?_⟩
    cases hls : lsF [] [] false fs with
    | some cs =>
      have hx := gList_eq (cap := cap) (ex := ex) (cap2 := 0) (ex2 := true) hfs he (by decide) hls
      simp only [↓STEP, go_sem, ↓reduceIte, Nat.reduceEqDiff, Nat.reduceLeDiff, Nat.reduceLT, Nat.reduceAdd, Nat.reduceSub, Nat.reduceMul, Int.reduceLT, Int.reduceLE, Int.reduceEq, Int.reduceAdd, Int.reduceSub, Int.reduceMul, Int.reduceNeg, Int.reduceToNat, reduceCtorEq, hc, hx]
      simp only [List.map_nil, hls]
      exact Abs.out rfl rfl (by (repeat (first | exact Kept.refl | apply Kept.push | refine Kept.kill ?_ (by omega) | refine Kept.set ?_ (by omega))))
    | none =>
      have hx := gList_none (cap := cap) (ex := ex) (cap2 := 0) (ex2 := true) hfs he (by decide) hls
      simp only [↓STEP, go_sem, ↓reduceIte, Nat.reduceEqDiff, Nat.reduceLeDiff, Nat.reduceLT, Nat.reduceAdd, Nat.reduceSub, Nat.reduceMul, Int.reduceLT, Int.reduceLE, Int.reduceEq, Int.reduceAdd, Int.reduceSub, Int.reduceMul, Int.reduceNeg, Int.reduceToNat, reduceCtorEq, hc, hx]
      simp only [List.map_nil, hls]
      exact Abs.out rfl rfl (by (repeat (first | exact Kept.refl | apply Kept.push | refine Kept.kill ?_ (by omega) | refine Kept.set ?_ (by omega))))
  · cases hg0
theorem cRow_at (a : Bool) : cRow a = [V.i .i64 (if a = true then 1 else 0)] := rfl
theorem rresponse_ok {kl ko : Nat} (hl : pr.ext kl = some gList) (ho : pr.ext ko = some gOf) : OkF pr (c_isthmusref3_Response kl ko) (gTell respP) := by
  intro as h v h' hg
  have hg0 := hg
  unfold gTell at hg0
  split at hg0
  · rename_i p n cap ex
    clear hg0
    rw [gTell_eq] at hg
    obtain ⟨fs, hfs, hg2⟩ := Option.bind_eq_some_iff.1 hg
    cases hg2
    have hc := @wpCall_ext pr kl _ hl
    have hco := @wpCall_ext pr ko _ ho
    rw [response_eq]
    unfold tellR
    have hh := readS (h := h) (ps := P1) (by decide) (ro := false)
    have hf1 := readRows_kept hfs (g := h.push (.rows 1 (P1.map sRow) false)) (by (repeat (first | exact Kept.refl | apply Kept.push | refine Kept.kill ?_ (by omega) | refine Kept.set ?_ (by omega))))
    unfold wpF c_isthmusref3_Response
    refine ⟨by simp, ?_⟩
    cases hls : lsF P1 (P1.map fun _ => false) false fs with
    | some cs =>
      have hx := gList_eq (cap := cap) (ex := ex) (cap2 := 1) (ex2 := true) hf1 hh (by decide) hls
      have hcl := lsF_len _ _ _ _ hls
      match cs, hcl with
      | [a], _ =>
      simp only [List.map_cons, List.map_nil, sRow, cRow, List.length_cons, List.length_nil, Nat.reduceAdd] at hx
      have hf2 := fun x => readRows_kept hfs (g := (h.push (.rows 1 (P1.map sRow) false)).push x) (by (repeat (first | exact Kept.refl | apply Kept.push | refine Kept.kill ?_ (by omega) | refine Kept.set ?_ (by omega))))
      have hox : ∀ x, gOf [.sl p n cap ex, .s kStatus] ((h.push (.rows 1 [[.s kStatus]] false)).push x) = some (.s (ofF kStatus fs), (h.push (.rows 1 [[.s kStatus]] false)).push x) := fun x => by
        have := hf2 x
        simp only [List.map_cons, List.map_nil, sRow] at this
        simp only [gOf, this, Option.bind_some]
      unfold respR
      have hx1 := hx
      cases a
      · simp only [Bool.false_eq_true, if_false, ↓reduceIte] at hx
        simp only [↓STEP, go_sem, ↓reduceIte, Nat.reduceEqDiff, Nat.reduceLeDiff, Nat.reduceLT, Nat.reduceAdd, Nat.reduceSub, Nat.reduceMul, Int.reduceLT, Int.reduceLE, Int.reduceEq, Int.reduceAdd, Int.reduceSub, Int.reduceMul, Int.reduceNeg, Int.reduceToNat, reduceCtorEq, hc, hx]
        exact Abs.out rfl rfl (by (repeat (first | exact Kept.refl | apply Kept.push | refine Kept.kill ?_ (by omega) | refine Kept.set ?_ (by omega))))
      simp only [if_true, ↓reduceIte] at hx
      clear hx1 hf2 hf1 hh hg
      generalize ofF kStatus fs = s at hox
      have fin : ∀ (r : Int) (H1 : H), Kept h H1 → r = (if respS s = true then 0 else 5) → Abs h (.i .i64 r) H1 (.i .i64 (if ([true][0]? == some true && respS s) = true then 0 else 5)) h := fun r H1 hk1 hr =>
        Abs.out (by rw [hr]; simp) rfl hk1
      match s with
      | [x, y, z] =>
        by_cases d1 : (x.toNat : Int) < 50
        · simp only [↓STEP, go_sem, ↓reduceIte, Nat.reduceEqDiff, Nat.reduceLeDiff, Nat.reduceLT, Nat.reduceAdd, Nat.reduceSub, Nat.reduceMul, Int.reduceLT, Int.reduceLE, Int.reduceEq, Int.reduceAdd, Int.reduceSub, Int.reduceMul, Int.reduceNeg, Int.reduceToNat, reduceCtorEq, hc, hx, hco, hox, d1]
          exact fin _ _ (by (repeat (first | exact Kept.refl | apply Kept.push | refine Kept.kill ?_ (by omega) | refine Kept.set ?_ (by omega)))) (by simp [respS, dig]; omega)
        by_cases d2 : (53 : Int) < x.toNat
        · simp only [↓STEP, go_sem, ↓reduceIte, Nat.reduceEqDiff, Nat.reduceLeDiff, Nat.reduceLT, Nat.reduceAdd, Nat.reduceSub, Nat.reduceMul, Int.reduceLT, Int.reduceLE, Int.reduceEq, Int.reduceAdd, Int.reduceSub, Int.reduceMul, Int.reduceNeg, Int.reduceToNat, reduceCtorEq, hc, hx, hco, hox, d1, d2]
          exact fin _ _ (by (repeat (first | exact Kept.refl | apply Kept.push | refine Kept.kill ?_ (by omega) | refine Kept.set ?_ (by omega)))) (by simp [respS, dig]; omega)
        by_cases d3 : (y.toNat : Int) < 48
        · simp only [↓STEP, go_sem, ↓reduceIte, Nat.reduceEqDiff, Nat.reduceLeDiff, Nat.reduceLT, Nat.reduceAdd, Nat.reduceSub, Nat.reduceMul, Int.reduceLT, Int.reduceLE, Int.reduceEq, Int.reduceAdd, Int.reduceSub, Int.reduceMul, Int.reduceNeg, Int.reduceToNat, reduceCtorEq, hc, hx, hco, hox, d1, d2, d3]
          exact fin _ _ (by (repeat (first | exact Kept.refl | apply Kept.push | refine Kept.kill ?_ (by omega) | refine Kept.set ?_ (by omega)))) (by simp [respS, dig]; omega)
        by_cases d4 : (57 : Int) < y.toNat
        · simp only [↓STEP, go_sem, ↓reduceIte, Nat.reduceEqDiff, Nat.reduceLeDiff, Nat.reduceLT, Nat.reduceAdd, Nat.reduceSub, Nat.reduceMul, Int.reduceLT, Int.reduceLE, Int.reduceEq, Int.reduceAdd, Int.reduceSub, Int.reduceMul, Int.reduceNeg, Int.reduceToNat, reduceCtorEq, hc, hx, hco, hox, d1, d2, d3, d4]
          exact fin _ _ (by (repeat (first | exact Kept.refl | apply Kept.push | refine Kept.kill ?_ (by omega) | refine Kept.set ?_ (by omega)))) (by simp [respS, dig]; omega)
        by_cases d5 : (z.toNat : Int) < 48
        · simp only [↓STEP, go_sem, ↓reduceIte, Nat.reduceEqDiff, Nat.reduceLeDiff, Nat.reduceLT, Nat.reduceAdd, Nat.reduceSub, Nat.reduceMul, Int.reduceLT, Int.reduceLE, Int.reduceEq, Int.reduceAdd, Int.reduceSub, Int.reduceMul, Int.reduceNeg, Int.reduceToNat, reduceCtorEq, hc, hx, hco, hox, d1, d2, d3, d4, d5]
          exact fin _ _ (by (repeat (first | exact Kept.refl | apply Kept.push | refine Kept.kill ?_ (by omega) | refine Kept.set ?_ (by omega)))) (by simp [respS, dig]; omega)
        by_cases d6 : (57 : Int) < z.toNat
        · simp only [↓STEP, go_sem, ↓reduceIte, Nat.reduceEqDiff, Nat.reduceLeDiff, Nat.reduceLT, Nat.reduceAdd, Nat.reduceSub, Nat.reduceMul, Int.reduceLT, Int.reduceLE, Int.reduceEq, Int.reduceAdd, Int.reduceSub, Int.reduceMul, Int.reduceNeg, Int.reduceToNat, reduceCtorEq, hc, hx, hco, hox, d1, d2, d3, d4, d5, d6]
          exact fin _ _ (by (repeat (first | exact Kept.refl | apply Kept.push | refine Kept.kill ?_ (by omega) | refine Kept.set ?_ (by omega)))) (by simp [respS, dig]; omega)
        · simp only [↓STEP, go_sem, ↓reduceIte, Nat.reduceEqDiff, Nat.reduceLeDiff, Nat.reduceLT, Nat.reduceAdd, Nat.reduceSub, Nat.reduceMul, Int.reduceLT, Int.reduceLE, Int.reduceEq, Int.reduceAdd, Int.reduceSub, Int.reduceMul, Int.reduceNeg, Int.reduceToNat, reduceCtorEq, hc, hx, hco, hox, d1, d2, d3, d4, d5, d6]
          exact fin _ _ (by (repeat (first | exact Kept.refl | apply Kept.push | refine Kept.kill ?_ (by omega) | refine Kept.set ?_ (by omega)))) (by simp [respS, dig]; omega)
      | [] =>
        simp only [↓STEP, go_sem, ↓reduceIte, Nat.reduceEqDiff, Nat.reduceLeDiff, Nat.reduceLT, Nat.reduceAdd, Nat.reduceSub, Nat.reduceMul, Int.reduceLT, Int.reduceLE, Int.reduceEq, Int.reduceAdd, Int.reduceSub, Int.reduceMul, Int.reduceNeg, Int.reduceToNat, reduceCtorEq, hc, hx, hco, hox]
        exact fin _ _ (by (repeat (first | exact Kept.refl | apply Kept.push | refine Kept.kill ?_ (by omega) | refine Kept.set ?_ (by omega)))) rfl
      | [x] =>
        simp only [↓STEP, go_sem, ↓reduceIte, Nat.reduceEqDiff, Nat.reduceLeDiff, Nat.reduceLT, Nat.reduceAdd, Nat.reduceSub, Nat.reduceMul, Int.reduceLT, Int.reduceLE, Int.reduceEq, Int.reduceAdd, Int.reduceSub, Int.reduceMul, Int.reduceNeg, Int.reduceToNat, reduceCtorEq, hc, hx, hco, hox]
        exact fin _ _ (by (repeat (first | exact Kept.refl | apply Kept.push | refine Kept.kill ?_ (by omega) | refine Kept.set ?_ (by omega)))) rfl
      | [x, y] =>
        simp only [↓STEP, go_sem, ↓reduceIte, Nat.reduceEqDiff, Nat.reduceLeDiff, Nat.reduceLT, Nat.reduceAdd, Nat.reduceSub, Nat.reduceMul, Int.reduceLT, Int.reduceLE, Int.reduceEq, Int.reduceAdd, Int.reduceSub, Int.reduceMul, Int.reduceNeg, Int.reduceToNat, reduceCtorEq, hc, hx, hco, hox]
        exact fin _ _ (by (repeat (first | exact Kept.refl | apply Kept.push | refine Kept.kill ?_ (by omega) | refine Kept.set ?_ (by omega)))) rfl
      | x :: y :: z :: w :: r =>
        have hl3 : ¬ ((r.length + 4 : Nat) : Int) = 3 := by omega
        simp only [↓STEP, go_sem, ↓reduceIte, Nat.reduceEqDiff, Nat.reduceLeDiff, Nat.reduceLT, Nat.reduceAdd, Nat.reduceSub, Nat.reduceMul, Int.reduceLT, Int.reduceLE, Int.reduceEq, Int.reduceAdd, Int.reduceSub, Int.reduceMul, Int.reduceNeg, Int.reduceToNat, reduceCtorEq, hc, hx, hco, hox, hl3]
        exact fin _ _ (by (repeat (first | exact Kept.refl | apply Kept.push | refine Kept.kill ?_ (by omega) | refine Kept.set ?_ (by omega)))) (by simp [respS])
    | none =>
      have hx := gList_none (cap := cap) (ex := ex) (cap2 := 1) (ex2 := true) hf1 hh (by decide) hls
      simp only [List.map_cons, List.map_nil, sRow, List.length_cons, List.length_nil, Nat.reduceAdd] at hx
      simp only [↓STEP, go_sem, ↓reduceIte, Nat.reduceEqDiff, Nat.reduceLeDiff, Nat.reduceLT, Nat.reduceAdd, Nat.reduceSub, Nat.reduceMul, Int.reduceLT, Int.reduceLE, Int.reduceEq, Int.reduceAdd, Int.reduceSub, Int.reduceMul, Int.reduceNeg, Int.reduceToNat, reduceCtorEq, hc, hx]
      exact Abs.out rfl rfl (by (repeat (first | exact Kept.refl | apply Kept.push | refine Kept.kill ?_ (by omega) | refine Kept.set ?_ (by omega))))
  · cases hg0
theorem rrequest_ok {kl ko : Nat} (hl : pr.ext kl = some gList) (ho : pr.ext ko = some gOf) : OkF pr (c_isthmusref3_Request kl ko) (gTell reqP) := by
  intro as h v h' hg
  have hg0 := hg
  unfold gTell at hg0
  split at hg0
  · rename_i p n cap ex
    clear hg0
    rw [gTell_eq] at hg
    obtain ⟨fs, hfs, hg2⟩ := Option.bind_eq_some_iff.1 hg
    cases hg2
    have hc := @wpCall_ext pr kl _ hl
    have hco := @wpCall_ext pr ko _ ho
    rw [request_eq]
    unfold tellR
    have hh := readS (h := h) (ps := P4) (by decide) (ro := false)
    have hf1 := readRows_kept hfs (g := h.push (.rows 1 (P4.map sRow) false)) (by (repeat (first | exact Kept.refl | apply Kept.push | refine Kept.kill ?_ (by omega) | refine Kept.set ?_ (by omega))))
    unfold wpF c_isthmusref3_Request
    refine ⟨by simp, ?_⟩
    cases hls : lsF P4 (P4.map fun _ => false) false fs with
    | some cs =>
      have hx := gList_eq (cap := cap) (ex := ex) (cap2 := 4) (ex2 := true) hf1 hh (by decide) hls
      have hcl := lsF_len _ _ _ _ hls
      match cs, hcl with
      | [a, b, c, d], _ =>
      simp only [List.map_cons, List.map_nil, sRow, cRow, List.length_cons, List.length_nil, Nat.reduceAdd] at hx
      have hf2 := fun x => readRows_kept hfs (g := (h.push (.rows 1 (P4.map sRow) false)).push x) (by (repeat (first | exact Kept.refl | apply Kept.push | refine Kept.kill ?_ (by omega) | refine Kept.set ?_ (by omega))))
      have hox : ∀ k x, gOf [.sl p n cap ex, .s k] ((h.push (.rows 1 [[.s kMethod], [.s kScheme], [.s kPath], [.s kAuth]] false)).push x) = some (.s (ofF k fs), (h.push (.rows 1 [[.s kMethod], [.s kScheme], [.s kPath], [.s kAuth]] false)).push x) := fun k x => by
        have := hf2 x
        simp only [List.map_cons, List.map_nil, sRow] at this
        simp only [gOf, this, Option.bind_some]
      have fin : ∀ (r : Int) (H1 : H), Kept h H1 → r = (if reqR fs [a, b, c, d] = true then 0 else 5) → Abs h (.i .i64 r) H1 (.i .i64 (if reqR fs [a, b, c, d] = true then 0 else 5)) h := fun r H1 hk1 hr =>
        Abs.out (by rw [hr]) rfl hk1
      show wpA _ _ _ _ _ _ (wpRes _ fun v1 h1 => Abs h v1 h1 (.i .i64 (if reqR fs [a, b, c, d] = true then 0 else 5)) h)
      cases a
      · simp only [Bool.false_eq_true, if_false, ↓reduceIte] at hx
        simp only [↓STEP, go_sem, ↓reduceIte, Nat.reduceEqDiff, Nat.reduceLeDiff, Nat.reduceLT, Nat.reduceAdd, Nat.reduceSub, Nat.reduceMul, Int.reduceLT, Int.reduceLE, Int.reduceEq, Int.reduceAdd, Int.reduceSub, Int.reduceMul, Int.reduceNeg, Int.reduceToNat, reduceCtorEq, hc, hx]
        exact fin 5 _ (by (repeat (first | exact Kept.refl | apply Kept.push | refine Kept.kill ?_ (by omega) | refine Kept.set ?_ (by omega)))) (by simp [reqR])
      simp only [if_true, ↓reduceIte] at hx
      cases b
      · simp only [Bool.false_eq_true, if_false, ↓reduceIte] at hx
        simp only [↓STEP, go_sem, ↓reduceIte, Nat.reduceEqDiff, Nat.reduceLeDiff, Nat.reduceLT, Nat.reduceAdd, Nat.reduceSub, Nat.reduceMul, Int.reduceLT, Int.reduceLE, Int.reduceEq, Int.reduceAdd, Int.reduceSub, Int.reduceMul, Int.reduceNeg, Int.reduceToNat, reduceCtorEq, hc, hx]
        exact fin 5 _ (by (repeat (first | exact Kept.refl | apply Kept.push | refine Kept.kill ?_ (by omega) | refine Kept.set ?_ (by omega)))) (by simp [reqR])
      simp only [if_true, ↓reduceIte] at hx
      cases c
      · simp only [Bool.false_eq_true, if_false, ↓reduceIte] at hx
        simp only [↓STEP, go_sem, ↓reduceIte, Nat.reduceEqDiff, Nat.reduceLeDiff, Nat.reduceLT, Nat.reduceAdd, Nat.reduceSub, Nat.reduceMul, Int.reduceLT, Int.reduceLE, Int.reduceEq, Int.reduceAdd, Int.reduceSub, Int.reduceMul, Int.reduceNeg, Int.reduceToNat, reduceCtorEq, hc, hx]
        exact fin 5 _ (by (repeat (first | exact Kept.refl | apply Kept.push | refine Kept.kill ?_ (by omega) | refine Kept.set ?_ (by omega)))) (by simp [reqR])
      simp only [if_true, ↓reduceIte] at hx
      clear hf2 hf1 hh hg
      have hR : reqR fs [true, true, true, d] = (!decide (ofF kMethod fs = []) && !decide (ofF kScheme fs = []) && pathOk (ofF kPath fs)) := by simp [reqR]
      rw [hR] at fin ⊢
      clear hR hls
      have h1 := hox kMethod
      have h2 := hox kScheme
      have h3 := hox kPath
      clear hox
      generalize ofF kMethod fs = s1 at *
      generalize ofF kScheme fs = s2 at *
      generalize ofF kPath fs = s3 at *
      generalize hB : (!decide (s1 = []) && !decide (s2 = []) && pathOk s3) = B at fin ⊢
      cases d <;> simp only [Bool.false_eq_true, if_false, if_true, ↓reduceIte] at hx
      all_goals
        by_cases e1 : s1 = []
        · subst e1
          simp only [↓STEP, go_sem, ↓reduceIte, Nat.reduceEqDiff, Nat.reduceLeDiff, Nat.reduceLT, Nat.reduceAdd, Nat.reduceSub, Nat.reduceMul, Int.reduceLT, Int.reduceLE, Int.reduceEq, Int.reduceAdd, Int.reduceSub, Int.reduceMul, Int.reduceNeg, Int.reduceToNat, reduceCtorEq, hc, hx, hco, h1, h2, h3]
          exact fin 5 _ (by (repeat (first | exact Kept.refl | apply Kept.push | refine Kept.kill ?_ (by omega) | refine Kept.set ?_ (by omega)))) (by rw [← hB]; simp)
        by_cases e2 : s2 = []
        · subst e2
          simp only [↓STEP, go_sem, ↓reduceIte, Nat.reduceEqDiff, Nat.reduceLeDiff, Nat.reduceLT, Nat.reduceAdd, Nat.reduceSub, Nat.reduceMul, Int.reduceLT, Int.reduceLE, Int.reduceEq, Int.reduceAdd, Int.reduceSub, Int.reduceMul, Int.reduceNeg, Int.reduceToNat, reduceCtorEq, hc, hx, hco, h1, h2, h3, e1]
          exact fin 5 _ (by (repeat (first | exact Kept.refl | apply Kept.push | refine Kept.kill ?_ (by omega) | refine Kept.set ?_ (by omega)))) (by rw [← hB]; simp)
        match s3, hB with
        | [], hB =>
          simp only [↓STEP, go_sem, ↓reduceIte, Nat.reduceEqDiff, Nat.reduceLeDiff, Nat.reduceLT, Nat.reduceAdd, Nat.reduceSub, Nat.reduceMul, Int.reduceLT, Int.reduceLE, Int.reduceEq, Int.reduceAdd, Int.reduceSub, Int.reduceMul, Int.reduceNeg, Int.reduceToNat, reduceCtorEq, hc, hx, hco, h1, h2, h3, e1, e2]
          exact fin 5 _ (by (repeat (first | exact Kept.refl | apply Kept.push | refine Kept.kill ?_ (by omega) | refine Kept.set ?_ (by omega)))) (by rw [← hB]; simp [pathOk])
        | x :: xs, hB =>
          by_cases e3 : (x.toNat : Int) = 47
          · have e3' := eq_true e3
            have e4 : x = 47 := UInt8.toNat_inj.1 (by rw [show (47 : UInt8).toNat = 47 from rfl]; omega)
            simp only [↓STEP, go_sem, ↓reduceIte, Nat.reduceEqDiff, Nat.reduceLeDiff, Nat.reduceLT, Nat.reduceAdd, Nat.reduceSub, Nat.reduceMul, Int.reduceLT, Int.reduceLE, Int.reduceEq, Int.reduceAdd, Int.reduceSub, Int.reduceMul, Int.reduceNeg, Int.reduceToNat, reduceCtorEq, hc, hx, hco, h1, h2, h3, e1, e2, e3']
            exact fin 0 _ (by (repeat (first | exact Kept.refl | apply Kept.push | refine Kept.kill ?_ (by omega) | refine Kept.set ?_ (by omega)))) (by rw [← hB]; simp [pathOk, e1, e2, e4])
          · have e4 : ¬ x = 47 := fun e => e3 (by rw [e]; rfl)
            by_cases e5 : x :: xs = [42]
            · have e5' := eq_true e5
              simp only [↓STEP, go_sem, ↓reduceIte, Nat.reduceEqDiff, Nat.reduceLeDiff, Nat.reduceLT, Nat.reduceAdd, Nat.reduceSub, Nat.reduceMul, Int.reduceLT, Int.reduceLE, Int.reduceEq, Int.reduceAdd, Int.reduceSub, Int.reduceMul, Int.reduceNeg, Int.reduceToNat, reduceCtorEq, hc, hx, hco, h1, h2, h3, e1, e2, e3, e5']
              exact fin 0 _ (by (repeat (first | exact Kept.refl | apply Kept.push | refine Kept.kill ?_ (by omega) | refine Kept.set ?_ (by omega)))) (by rw [← hB]; simp only [pathOk, e1, e2, e5]; simp)
            · simp only [↓STEP, go_sem, ↓reduceIte, Nat.reduceEqDiff, Nat.reduceLeDiff, Nat.reduceLT, Nat.reduceAdd, Nat.reduceSub, Nat.reduceMul, Int.reduceLT, Int.reduceLE, Int.reduceEq, Int.reduceAdd, Int.reduceSub, Int.reduceMul, Int.reduceNeg, Int.reduceToNat, reduceCtorEq, hc, hx, hco, h1, h2, h3, e1, e2, e3, e5]
              exact fin 5 _ (by (repeat (first | exact Kept.refl | apply Kept.push | refine Kept.kill ?_ (by omega) | refine Kept.set ?_ (by omega)))) (by rw [← hB]; simp only [pathOk, e5]; simp [e4])
    | none =>
      have hx := gList_none (cap := cap) (ex := ex) (cap2 := 4) (ex2 := true) hf1 hh (by decide) hls
      simp only [List.map_cons, List.map_nil, sRow, List.length_cons, List.length_nil, Nat.reduceAdd] at hx
      simp only [↓STEP, go_sem, ↓reduceIte, Nat.reduceEqDiff, Nat.reduceLeDiff, Nat.reduceLT, Nat.reduceAdd, Nat.reduceSub, Nat.reduceMul, Int.reduceLT, Int.reduceLE, Int.reduceEq, Int.reduceAdd, Int.reduceSub, Int.reduceMul, Int.reduceNeg, Int.reduceToNat, reduceCtorEq, hc, hx]
      exact Abs.out rfl rfl (by (repeat (first | exact Kept.refl | apply Kept.push | refine Kept.kill ?_ (by omega) | refine Kept.set ?_ (by omega))))
  · cases hg0
end Am
