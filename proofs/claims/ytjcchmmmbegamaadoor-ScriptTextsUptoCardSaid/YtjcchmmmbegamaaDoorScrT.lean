/- The law ScriptTexts. -/
import Derived.Test.YtjcchmmmbegamaaDoorScrM
namespace Am
set_option linter.unusedVariables false
set_option linter.unusedSimpArgs false
set_option maxRecDepth 20000
set_option maxHeartbeats 8000000
variable {pr : Prog}

def EqLoop (g0 : H) (N : Nat) (x y : V) (m : Nat) (t : Tm) (g : H) : Prop :=
  ∃ i : Nat, m = N - i ∧ i ≤ N ∧ t.v 5 = .i .i64 (i : Nat) ∧ t.v 0 = x ∧ t.v 1 = y ∧ g = g0
theorem eqF_runs {k : Nat} (hA : pr.ext k = none) (hfn : pr.fn k = some c_isthmusref3_EqFields) {g : H} {p q : Option (Nat × Nat)} {n m c c2 : Nat} {ex ex2 : Bool} {fs : List Fd} (h1 : rowsIn g 3 p n (fs.map Fd.row)) (h2 : rowsIn g 3 q m (fs.map Fd.row)) (hn : n ≤ 10000000) :
    Runs pr (.fn k) [.sl p n c ex, .sl q m c2 ex2] g (fun v g' => v = .b true ∧ g' = g) := by
  obtain ⟨l1, r1⟩ := h1
  obtain ⟨l2, r2⟩ := h2
  rw [List.length_map] at l1 l2
  subst l1 l2
  refine runs_of_wpF hA hfn ?_
  unfold wpF c_isthmusref3_EqFields
  refine ⟨by simp, ?_⟩
  simp only [↓STEP, SB, looked, behind, lookOk, AAct.kind, AOp.kind, wpRes, evRes, resV, AOp.ev, bin, binI, binS, shiftI, eqV, un, bound, boundO, fill, fillRows, aggOf, keyEq, findKey, putKey, V.cells, V.flat, byteOf, bytesOf, rdOf, H.wr, H.kOf, splice, isYl, ↓reduceIte, Nat.reduceEqDiff, Nat.reduceLeDiff, Nat.reduceLT, Nat.reduceAdd, Nat.reduceSub, Nat.reduceMul, Int.reduceLT, Int.reduceLE, Int.reduceEq, Int.reduceAdd, Int.reduceSub, Int.reduceMul, Int.reduceNeg, Int.reduceToNat, reduceCtorEq]
  refine wpA_loop_inv (EqLoop g fs.length (.sl p fs.length c ex) (.sl q fs.length c2 ex2)) ?_ (m := fs.length) ?_
  · rintro mm t g' ⟨i, rfl, hi, e5, e0, e1, rfl⟩
    by_cases hlt : i < fs.length
    · have hlt' : (i : Int) < (fs.length : Int) := by omega
      obtain ⟨b1, s1, all1, ro1, rfl, hb1, hg1, hat1⟩ := r1.resolve_left (by omega)
      obtain ⟨b2, s2, all2, ro2, rfl, hb2, hg2, hat2⟩ := r2.resolve_left (by omega)
      have w1 : all1[s1 + i]? = some [.s fs[i].n, .s fs[i].v, .b fs[i].z] := hat1 i _ (by rw [List.getElem?_map, List.getElem?_eq_getElem hlt]; rfl)
      have w2 : all2[s2 + i]? = some [.s fs[i].n, .s fs[i].v, .b fs[i].z] := hat2 i _ (by rw [List.getElem?_map, List.getElem?_eq_getElem hlt]; rfl)
      have hwr : Go.IntKind.wrap .i64 ((i : Int) + 1) = (i : Int) + 1 := wrap_i64 (by omega) (by omega)
      simp only [↓STEP, SB, looked, behind, lookOk, AAct.kind, AOp.kind, wpRes, evRes, resV, AOp.ev, bin, binI, binS, shiftI, eqV, un, bound, boundO, fill, fillRows, aggOf, keyEq, findKey, putKey, V.cells, V.flat, byteOf, bytesOf, rdOf, H.wr, H.kOf, splice, isYl, ↓reduceIte, Nat.reduceEqDiff, Nat.reduceLeDiff, Nat.reduceLT, Nat.reduceAdd, Nat.reduceSub, Nat.reduceMul, Int.reduceLT, Int.reduceLE, Int.reduceEq, Int.reduceAdd, Int.reduceSub, Int.reduceMul, Int.reduceNeg, Int.reduceToNat, reduceCtorEq, e5, e0, e1, hlt', hg1, hg2, w1, w2, hwr, eq_self, beq_self_eq_true]
      exact ⟨_, by omega, i + 1, rfl, by omega, by simp [v_pd], by simp [v_pd, e0], by simp [v_pd, e1], rfl⟩
    · have hlt' : ¬ (i : Int) < (fs.length : Int) := by omega
      simp only [↓STEP, SB, looked, behind, lookOk, AAct.kind, AOp.kind, wpRes, evRes, resV, AOp.ev, bin, binI, binS, shiftI, eqV, un, bound, boundO, fill, fillRows, aggOf, keyEq, findKey, putKey, V.cells, V.flat, byteOf, bytesOf, rdOf, H.wr, H.kOf, splice, isYl, ↓reduceIte, Nat.reduceEqDiff, Nat.reduceLeDiff, Nat.reduceLT, Nat.reduceAdd, Nat.reduceSub, Nat.reduceMul, Int.reduceLT, Int.reduceLE, Int.reduceEq, Int.reduceAdd, Int.reduceSub, Int.reduceMul, Int.reduceNeg, Int.reduceToNat, reduceCtorEq, e5, e0, e1, hlt']
  · exact ⟨0, rfl, Nat.zero_le _, by simp [v_pd], by simp [v_pd, v_args_cons], by simp [v_pd, v_args_cons], rfl⟩

theorem fieldsV_rd (h : H) (fs : List Fd) : ∃ a n ex g, fieldsV h (some fs) = (.tup [.sl a n n ex, .i .i64 0], g) ∧ n = fs.length ∧ rowsIn g 3 a n (fs.map Fd.row) ∧ Kept h g := by
  obtain ⟨a, n, ex, g, h1, h2, h3, h4⟩ := outVR_rd h 3 (fs.map Fd.row) [.i .i64 0]
  rw [List.length_map] at h2
  refine ⟨a, n, ex, g, h1, h2, ⟨by rw [List.length_map, h2], ?_⟩, h3⟩
  by_cases h0 : n = 0
  · exact .inl h0
  · obtain ⟨b, rfl, _, hb, hg⟩ := h4 0 _ (List.getElem?_eq_getElem (by rw [List.length_map]; omega))
    exact .inr ⟨b, 0, _, _, rfl, hb, hg, fun i row hi => by rw [Nat.zero_add]; exact hi⟩
theorem fieldsV_any (h : H) (r : Option (List Fd)) : ∃ a n ex g fs er, fieldsV h r = (.tup [.sl a n n ex, .i .i64 er], g) ∧ rowsIn g 3 a n (fs.map Fd.row) ∧ Kept h g ∧ fs = r.getD [] ∧ er = (if r.isSome = true then 0 else 12) ∧ n = fs.length := by
  cases r with
  | some fs =>
    obtain ⟨a, n, ex, g, h1, h2, h3, h4⟩ := fieldsV_rd h fs
    exact ⟨a, n, ex, g, fs, 0, h1, h3, h4, rfl, rfl, h2⟩
  | none => exact ⟨none, 0, true, h, [], 12, rfl, ⟨rfl, .inl rfl⟩, Kept.refl, rfl, rfl, rfl⟩
theorem readV_tx (l : List UInt8) : readV (txF l) = .tup [.s l, .i .i64 0] := by
  unfold readV
  have := cutF_tx l []
  rw [List.append_nil] at this
  rw [this]
theorem readV_two (l : List UInt8) : ∃ x y, readV l = .tup [.s x, .i .i64 y] := by
  unfold readV
  split <;> exact ⟨_, _, rfl⟩
theorem readF_len : ∀ (k : Nat) (s : List UInt8) (fs : List Fd), rfF k s = some fs → fs.length ≤ s.length + 1
  | 0, s, fs, h => by cases h
  | k + 1, s, fs, h => by
    rw [rfF] at h
    split at h
    · cases h; simp
    · rename_i f c r h1
      have hl := oneF_len h1
      simp at hl
      split at h
      · obtain ⟨fs', h2, rfl⟩ := Option.map_eq_some_iff.1 h
        have := readF_len k r fs' h2
        simp; omega
      · cases h
    · cases h
theorem readF_len' {s : List UInt8} : ((readF s).getD []).length ≤ s.length + 1 := by
  cases h : readF s with
  | none => simp
  | some fs =>
    unfold readF at h
    split at h
    · cases h; simp
    · exact readF_len _ _ _ h

theorem texts_law {kb kw kf kr ke kt kR kRr kRF kFr kTr : Nat} (hb : pr.ext kb = some (xConst (.b true))) (hwA : pr.ext kw = none) (hwf : pr.fn kw = some c_isthmuslaw23_few) (hf : pr.ext kf = some gFld) (hr : pr.ext kr = some gRF) (heA : pr.ext ke = none) (hef : pr.fn ke = some c_isthmusref3_EqFields)
    (ht : pr.ext kt = some gTx2) (hR : pr.ext kR = some gRT) (hRr : pr.ext kRr = some gRT) (hRF : pr.ext kRF = some gRF) (hFr : pr.ext kFr = some gFld) (hTr : pr.ext kTr = some gTx2)
    {h : H} {p : Option (Nat × Nat)} {n c : Nat} {ex : Bool} {fs : List Fd} {l : List UInt8} (hrow : rowsIn h 3 p n (fs.map Fd.row)) (htot : totF fs ≤ 10000000) (hl : l.length ≤ 10000000) :
    wpF pr (c_isthmuslaw23_ScriptTexts kb kw kf kr ke kt kR kRr kRF kFr kTr) [.sl p n c ex, .s l] h (fun v _ => v = .b true) := by
  have xb := @wpCall_ext pr kb (xConst (.b true)) hb
  have x1 := @wpCall_ext pr kf gFld hf
  have x2 := @wpCall_ext pr kr gRF hr
  have x3 := @wpCall_ext pr kt gTx2 ht
  have x4 := @wpCall_ext pr kR gRT hR
  have x5 := @wpCall_ext pr kRr gRT hRr
  have x6 := @wpCall_ext pr kRF gRF hRF
  have x7 := @wpCall_ext pr kFr gFld hFr
  have x8 := @wpCall_ext pr kTr gTx2 hTr
  have yb : ∀ g, xConst (.b true) [] g = some (.b true, g) := fun g => rfl
  unfold wpF c_isthmuslaw23_ScriptTexts
  refine ⟨by simp, ?_⟩
  have hst : stepsIn (h.push (.rows 12 [[.i .i64 0, .i .i64 0, .i .i64 0, .i .i64 0, .sl p n c ex, .sl none 0 0 true, .b false, .i .i64 0, .i .i64 0, .i .i64 0, .i .i64 0, .i .i64 0]] false)) (some (h.nx, 0)) 1 [(⟨0, 0, 0, 0, fs, [], false, 0, 0, 0, 0, 0⟩ : Sp)] := by
    refine ⟨rfl, .inr ⟨h.nx, 0, _, _, rfl, Nat.lt_succ_self _, by rw [H.get_push, if_pos rfl], fun i s hi => ?_⟩⟩
    cases i with
    | zero =>
      simp at hi; subst hi
      exact ⟨_, rfl, p, n, c, ex, none, 0, 0, true, rfl, rowsIn_kept hrow (Kept.push Kept.refl), rfl⟩
    | succ i => simp at hi
  have hsw : sumW [(⟨0, 0, 0, 0, fs, [], false, 0, 0, 0, 0, 0⟩ : Sp)] ≤ 1000000000 := by simp [sumW, wtS]; omega
  have hnl : fs.length = n := by have := hrow.1; rwa [List.length_map] at this
  by_cases h5 : (5000 : Int) < l.length
  · have h5' : (5000 : Int) ≤ l.length := by omega
    have hs5 : (l.take 5000).length ≤ 5000 := by rw [List.length_take]; omega
    simp only [↓STEP, SB, looked, behind, lookOk, AAct.kind, AOp.kind, wpRes, evRes, resV, AOp.ev, bin, binI, binS, shiftI, eqV, un, bound, boundO, fill, fillRows, aggOf, keyEq, findKey, putKey, V.cells, V.flat, byteOf, bytesOf, rdOf, H.wr, H.kOf, splice, isYl, ↓reduceIte, Nat.reduceEqDiff, Nat.reduceLeDiff, Nat.reduceLT, Nat.reduceAdd, Nat.reduceSub, Nat.reduceMul, Int.reduceLT, Int.reduceLE, Int.reduceEq, Int.reduceAdd, Int.reduceSub, Int.reduceMul, Int.reduceNeg, Int.reduceToNat, reduceCtorEq, xb, yb, h5, h5']
    refine Runs.mono (c := .fn kw) («as» := [.sl (some (h.nx, 0)) 1 1 true] ++ []) (few_runs hwA hwf hst hsw (Nat.le_refl _)) ?_
    rintro v g ⟨rfl, rfl⟩
    by_cases hw : 50000 < wtS ⟨0, 0, 0, 0, fs, [], false, 0, 0, 0, 0, 0⟩
    · have hN : fewN 0 [(⟨0, 0, 0, 0, fs, [], false, 0, 0, 0, 0, 0⟩ : Sp)] = 0 := by simp [fewN, hw]
      simp only [↓STEP, SB, looked, behind, lookOk, AAct.kind, AOp.kind, wpRes, evRes, resV, AOp.ev, bin, binI, binS, shiftI, eqV, un, bound, boundO, fill, fillRows, aggOf, keyEq, findKey, putKey, V.cells, V.flat, byteOf, bytesOf, rdOf, H.wr, H.kOf, splice, isYl, ↓reduceIte, Nat.reduceEqDiff, Nat.reduceLeDiff, Nat.reduceLT, Nat.reduceAdd, Nat.reduceSub, Nat.reduceMul, Int.reduceLT, Int.reduceLE, Int.reduceEq, Int.reduceAdd, Int.reduceSub, Int.reduceMul, Int.reduceNeg, Int.reduceToNat, reduceCtorEq, hN]
      done
    · have hN : fewN 0 [(⟨0, 0, 0, 0, fs, [], false, 0, 0, 0, 0, 0⟩ : Sp)] = 1 := by simp [fewN, hw]
      have htf : totF fs ≤ 50000 := by unfold wtS at hw; simp at hw; omega
      have hfl := fF_len fs
      have y1 : gFld [.sl p n c ex] (h.push (.rows 12 [[.i .i64 0, .i .i64 0, .i .i64 0, .i .i64 0, .sl p n c ex, .sl none 0 0 true, .b false, .i .i64 0, .i .i64 0, .i .i64 0, .i .i64 0, .i .i64 0]] false)) = some (.s (fF fs), h.push (.rows 12 [[.i .i64 0, .i .i64 0, .i .i64 0, .i .i64 0, .sl p n c ex, .sl none 0 0 true, .b false, .i .i64 0, .i .i64 0, .i .i64 0, .i .i64 0, .i .i64 0]] false)) := gFld_eq (rowsIn_kept hrow (Kept.push Kept.refl)) (by omega)
      obtain ⟨a2, n2, ex2, g2, e2, hn2, r2, k2⟩ := fieldsV_rd (h.push (.rows 12 [[.i .i64 0, .i .i64 0, .i .i64 0, .i .i64 0, .sl p n c ex, .sl none 0 0 true, .b false, .i .i64 0, .i .i64 0, .i .i64 0, .i .i64 0, .i .i64 0]] false)) fs
      have y2 : gRF [.s (fF fs)] (h.push (.rows 12 [[.i .i64 0, .i .i64 0, .i .i64 0, .i .i64 0, .sl p n c ex, .sl none 0 0 true, .b false, .i .i64 0, .i .i64 0, .i .i64 0, .i .i64 0, .i .i64 0]] false)) = some (.tup [.sl a2 n2 n2 ex2, .i .i64 0], g2) := by rw [gRF_eq (by omega), readF_write, e2]
      have kA : Kept h g2 := (Kept.push Kept.refl).trans k2
      have htl := totF_len fs
      simp only [↓STEP, SB, looked, behind, lookOk, AAct.kind, AOp.kind, wpRes, evRes, resV, AOp.ev, bin, binI, binS, shiftI, eqV, un, bound, boundO, fill, fillRows, aggOf, keyEq, findKey, putKey, V.cells, V.flat, byteOf, bytesOf, rdOf, H.wr, H.kOf, splice, isYl, ↓reduceIte, Nat.reduceEqDiff, Nat.reduceLeDiff, Nat.reduceLT, Nat.reduceAdd, Nat.reduceSub, Nat.reduceMul, Int.reduceLT, Int.reduceLE, Int.reduceEq, Int.reduceAdd, Int.reduceSub, Int.reduceMul, Int.reduceNeg, Int.reduceToNat, reduceCtorEq, hN, x1, y1, x2, y2]
      refine Runs.mono (c := .fn ke) («as» := [.sl a2 n2 n2 ex2, .sl p n c ex] ++ []) (eqF_runs heA hef r2 (rowsIn_kept hrow kA) (by omega)) ?_
      rintro v g ⟨rfl, rfl⟩
      have ht5 := tx_len (l.take 5000)
      have y3 : ∀ g', gTx2 [.s (l.take 5000)] g' = some (.s (txF (l.take 5000)), g') := fun g' => gTx2_eq (by omega)
      have y4 : ∀ g', gRT [.s (txF (l.take 5000))] g' = some (.tup [.s (l.take 5000), .i .i64 0], g') := fun g' => by rw [gRT_eq (by omega), readV_tx]
      obtain ⟨xx, yy, hxy⟩ := readV_two (l.take 5000)
      have y5 : ∀ g', gRT [.s (l.take 5000)] g' = some (.tup [.s xx, .i .i64 yy], g') := fun g' => by rw [gRT_eq (by omega), hxy]
      obtain ⟨a3, n3, ex3, g3, fs3, er3, e3, r3, k3, f3, q3, l3⟩ := fieldsV_any g (readF (l.take 5000))
      obtain ⟨a4, n4, ex4, g4, fs4, er4, e4, r4, k4, f4, q4, l4⟩ := fieldsV_any g3 (readF (l.take 5000))
      have hlr := readF_len' (s := l.take 5000)
      have y6 : gRF [.s (l.take 5000)] g = some (.tup [.sl a3 n3 n3 ex3, .i .i64 er3], g3) := by rw [gRF_eq (by omega), e3]
      have y7 : gRF [.s (l.take 5000)] g3 = some (.tup [.sl a4 n4 n4 ex4, .i .i64 er4], g4) := by rw [gRF_eq (by omega), e4]
      rw [← f3] at f4 hlr
      rw [← q3] at q4
      subst f4 q4
      simp only [↓STEP, SB, looked, behind, lookOk, AAct.kind, AOp.kind, wpRes, evRes, resV, AOp.ev, bin, binI, binS, shiftI, eqV, un, bound, boundO, fill, fillRows, aggOf, keyEq, findKey, putKey, V.cells, V.flat, byteOf, bytesOf, rdOf, H.wr, H.kOf, splice, isYl, ↓reduceIte, Nat.reduceEqDiff, Nat.reduceLeDiff, Nat.reduceLT, Nat.reduceAdd, Nat.reduceSub, Nat.reduceMul, Int.reduceLT, Int.reduceLE, Int.reduceEq, Int.reduceAdd, Int.reduceSub, Int.reduceMul, Int.reduceNeg, Int.reduceToNat, reduceCtorEq, x3, y3, x4, y4, y5, x5, x2, y6, x6, y7]
      refine Runs.mono (c := .fn ke) («as» := [.sl a3 n3 n3 ex3, .sl a4 n4 n4 ex4] ++ []) (eqF_runs heA hef (rowsIn_kept r3 k4) r4 (by omega)) ?_
      rintro v g' ⟨rfl, rfl⟩
      have y8 : gFld [.sl p n c ex] g' = some (.s (fF fs), g') := gFld_eq (rowsIn_kept hrow ((kA.trans k3).trans k4)) (by omega)
      simp only [↓STEP, SB, looked, behind, lookOk, AAct.kind, AOp.kind, wpRes, evRes, resV, AOp.ev, bin, binI, binS, shiftI, eqV, un, bound, boundO, fill, fillRows, aggOf, keyEq, findKey, putKey, V.cells, V.flat, byteOf, bytesOf, rdOf, H.wr, H.kOf, splice, isYl, ↓reduceIte, Nat.reduceEqDiff, Nat.reduceLeDiff, Nat.reduceLT, Nat.reduceAdd, Nat.reduceSub, Nat.reduceMul, Int.reduceLT, Int.reduceLE, Int.reduceEq, Int.reduceAdd, Int.reduceSub, Int.reduceMul, Int.reduceNeg, Int.reduceToNat, reduceCtorEq, x7, y8, x8, y3, eq_self, decide_true]
      done
  · have hs5 : l.length ≤ 5000 := by omega
    simp only [↓STEP, SB, looked, behind, lookOk, AAct.kind, AOp.kind, wpRes, evRes, resV, AOp.ev, bin, binI, binS, shiftI, eqV, un, bound, boundO, fill, fillRows, aggOf, keyEq, findKey, putKey, V.cells, V.flat, byteOf, bytesOf, rdOf, H.wr, H.kOf, splice, isYl, ↓reduceIte, Nat.reduceEqDiff, Nat.reduceLeDiff, Nat.reduceLT, Nat.reduceAdd, Nat.reduceSub, Nat.reduceMul, Int.reduceLT, Int.reduceLE, Int.reduceEq, Int.reduceAdd, Int.reduceSub, Int.reduceMul, Int.reduceNeg, Int.reduceToNat, reduceCtorEq, xb, yb, h5]
    refine Runs.mono (c := .fn kw) («as» := [.sl (some (h.nx, 0)) 1 1 true] ++ []) (few_runs hwA hwf hst hsw (Nat.le_refl _)) ?_
    rintro v g ⟨rfl, rfl⟩
    by_cases hw : 50000 < wtS ⟨0, 0, 0, 0, fs, [], false, 0, 0, 0, 0, 0⟩
    · have hN : fewN 0 [(⟨0, 0, 0, 0, fs, [], false, 0, 0, 0, 0, 0⟩ : Sp)] = 0 := by simp [fewN, hw]
      simp only [↓STEP, SB, looked, behind, lookOk, AAct.kind, AOp.kind, wpRes, evRes, resV, AOp.ev, bin, binI, binS, shiftI, eqV, un, bound, boundO, fill, fillRows, aggOf, keyEq, findKey, putKey, V.cells, V.flat, byteOf, bytesOf, rdOf, H.wr, H.kOf, splice, isYl, ↓reduceIte, Nat.reduceEqDiff, Nat.reduceLeDiff, Nat.reduceLT, Nat.reduceAdd, Nat.reduceSub, Nat.reduceMul, Int.reduceLT, Int.reduceLE, Int.reduceEq, Int.reduceAdd, Int.reduceSub, Int.reduceMul, Int.reduceNeg, Int.reduceToNat, reduceCtorEq, hN]
      done
    · have hN : fewN 0 [(⟨0, 0, 0, 0, fs, [], false, 0, 0, 0, 0, 0⟩ : Sp)] = 1 := by simp [fewN, hw]
      have htf : totF fs ≤ 50000 := by unfold wtS at hw; simp at hw; omega
      have hfl := fF_len fs
      have y1 : gFld [.sl p n c ex] (h.push (.rows 12 [[.i .i64 0, .i .i64 0, .i .i64 0, .i .i64 0, .sl p n c ex, .sl none 0 0 true, .b false, .i .i64 0, .i .i64 0, .i .i64 0, .i .i64 0, .i .i64 0]] false)) = some (.s (fF fs), h.push (.rows 12 [[.i .i64 0, .i .i64 0, .i .i64 0, .i .i64 0, .sl p n c ex, .sl none 0 0 true, .b false, .i .i64 0, .i .i64 0, .i .i64 0, .i .i64 0, .i .i64 0]] false)) := gFld_eq (rowsIn_kept hrow (Kept.push Kept.refl)) (by omega)
      obtain ⟨a2, n2, ex2, g2, e2, hn2, r2, k2⟩ := fieldsV_rd (h.push (.rows 12 [[.i .i64 0, .i .i64 0, .i .i64 0, .i .i64 0, .sl p n c ex, .sl none 0 0 true, .b false, .i .i64 0, .i .i64 0, .i .i64 0, .i .i64 0, .i .i64 0]] false)) fs
      have y2 : gRF [.s (fF fs)] (h.push (.rows 12 [[.i .i64 0, .i .i64 0, .i .i64 0, .i .i64 0, .sl p n c ex, .sl none 0 0 true, .b false, .i .i64 0, .i .i64 0, .i .i64 0, .i .i64 0, .i .i64 0]] false)) = some (.tup [.sl a2 n2 n2 ex2, .i .i64 0], g2) := by rw [gRF_eq (by omega), readF_write, e2]
      have kA : Kept h g2 := (Kept.push Kept.refl).trans k2
      have htl := totF_len fs
      simp only [↓STEP, SB, looked, behind, lookOk, AAct.kind, AOp.kind, wpRes, evRes, resV, AOp.ev, bin, binI, binS, shiftI, eqV, un, bound, boundO, fill, fillRows, aggOf, keyEq, findKey, putKey, V.cells, V.flat, byteOf, bytesOf, rdOf, H.wr, H.kOf, splice, isYl, ↓reduceIte, Nat.reduceEqDiff, Nat.reduceLeDiff, Nat.reduceLT, Nat.reduceAdd, Nat.reduceSub, Nat.reduceMul, Int.reduceLT, Int.reduceLE, Int.reduceEq, Int.reduceAdd, Int.reduceSub, Int.reduceMul, Int.reduceNeg, Int.reduceToNat, reduceCtorEq, hN, x1, y1, x2, y2]
      refine Runs.mono (c := .fn ke) («as» := [.sl a2 n2 n2 ex2, .sl p n c ex] ++ []) (eqF_runs heA hef r2 (rowsIn_kept hrow kA) (by omega)) ?_
      rintro v g ⟨rfl, rfl⟩
      have ht5 := tx_len (l)
      have y3 : ∀ g', gTx2 [.s (l)] g' = some (.s (txF (l)), g') := fun g' => gTx2_eq (by omega)
      have y4 : ∀ g', gRT [.s (txF (l))] g' = some (.tup [.s (l), .i .i64 0], g') := fun g' => by rw [gRT_eq (by omega), readV_tx]
      obtain ⟨xx, yy, hxy⟩ := readV_two (l)
      have y5 : ∀ g', gRT [.s (l)] g' = some (.tup [.s xx, .i .i64 yy], g') := fun g' => by rw [gRT_eq (by omega), hxy]
      obtain ⟨a3, n3, ex3, g3, fs3, er3, e3, r3, k3, f3, q3, l3⟩ := fieldsV_any g (readF (l))
      obtain ⟨a4, n4, ex4, g4, fs4, er4, e4, r4, k4, f4, q4, l4⟩ := fieldsV_any g3 (readF (l))
      have hlr := readF_len' (s := l)
      have y6 : gRF [.s (l)] g = some (.tup [.sl a3 n3 n3 ex3, .i .i64 er3], g3) := by rw [gRF_eq (by omega), e3]
      have y7 : gRF [.s (l)] g3 = some (.tup [.sl a4 n4 n4 ex4, .i .i64 er4], g4) := by rw [gRF_eq (by omega), e4]
      rw [← f3] at f4 hlr
      rw [← q3] at q4
      subst f4 q4
      simp only [↓STEP, SB, looked, behind, lookOk, AAct.kind, AOp.kind, wpRes, evRes, resV, AOp.ev, bin, binI, binS, shiftI, eqV, un, bound, boundO, fill, fillRows, aggOf, keyEq, findKey, putKey, V.cells, V.flat, byteOf, bytesOf, rdOf, H.wr, H.kOf, splice, isYl, ↓reduceIte, Nat.reduceEqDiff, Nat.reduceLeDiff, Nat.reduceLT, Nat.reduceAdd, Nat.reduceSub, Nat.reduceMul, Int.reduceLT, Int.reduceLE, Int.reduceEq, Int.reduceAdd, Int.reduceSub, Int.reduceMul, Int.reduceNeg, Int.reduceToNat, reduceCtorEq, x3, y3, x4, y4, y5, x5, x2, y6, x6, y7]
      refine Runs.mono (c := .fn ke) («as» := [.sl a3 n3 n3 ex3, .sl a4 n4 n4 ex4] ++ []) (eqF_runs heA hef (rowsIn_kept r3 k4) r4 (by omega)) ?_
      rintro v g' ⟨rfl, rfl⟩
      have y8 : gFld [.sl p n c ex] g' = some (.s (fF fs), g') := gFld_eq (rowsIn_kept hrow ((kA.trans k3).trans k4)) (by omega)
      simp only [↓STEP, SB, looked, behind, lookOk, AAct.kind, AOp.kind, wpRes, evRes, resV, AOp.ev, bin, binI, binS, shiftI, eqV, un, bound, boundO, fill, fillRows, aggOf, keyEq, findKey, putKey, V.cells, V.flat, byteOf, bytesOf, rdOf, H.wr, H.kOf, splice, isYl, ↓reduceIte, Nat.reduceEqDiff, Nat.reduceLeDiff, Nat.reduceLT, Nat.reduceAdd, Nat.reduceSub, Nat.reduceMul, Int.reduceLT, Int.reduceLE, Int.reduceEq, Int.reduceAdd, Int.reduceSub, Int.reduceMul, Int.reduceNeg, Int.reduceToNat, reduceCtorEq, x7, y8, x8, y3, eq_self, decide_true]
      done
end Am
