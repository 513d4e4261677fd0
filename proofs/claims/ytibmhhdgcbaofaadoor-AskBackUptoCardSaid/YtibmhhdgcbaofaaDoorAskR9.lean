/- The law AskBack. -/
import Derived.Test.YtibmhhdgcbaofaaDoorAskR8
namespace Am
set_option linter.unusedVariables false
set_option linter.unusedSimpArgs false
set_option maxRecDepth 20000
set_option maxHeartbeats 8000000
variable {pr : Prog}

def EqLoop (g0 : H) (N : Nat) (x y : V) (m : Nat) (t : Tm) (g : H) : Prop :=
  ∃ i : Nat, m = N - i ∧ i ≤ N ∧ t.v 5 = .i .i64 (i : Nat) ∧ t.v 0 = x ∧ t.v 1 = y ∧ g = g0
theorem eqF_runs {k : Nat} (hA : pr.ext k = none) (hfn : pr.fn k = some c_isthmusref3_EqFields) {g : H} {p q : Option (Nat × Nat)} {n m c c2 : Nat} {ex ex2 : Bool} {fs : List Fd} (h1 : rowsIn g 3 p n (fs.map Fd.row)) (h2 : rowsIn g 3 q m (fs.map Fd.row)) (hn : n ≤ 10000000) :
    Runs pr (.fn k) [.sl p n c ex, .sl q m c2 ex2] g (fun v g' => v = .b true ∧ g' = g) := by
  obtain ⟨l1, r1⟩ := h1
  obtain ⟨l2, r2⟩ := h2
  rw [List.length_map] at l1 l2
  subst l1 l2
  refine runs_of_wpF hA hfn ?_
  unfold wpF c_isthmusref3_EqFields
  refine ⟨by simp, ?_⟩
  simp only [↓STEP, SB, looked, behind, lookOk, AAct.kind, AOp.kind, wpRes, evRes, resV, AOp.ev, bin, binI, binS, shiftI, eqV, un, bound, boundO, fill, fillRows, aggOf, keyEq, findKey, putKey, V.cells, V.flat, byteOf, bytesOf, rdOf, H.wr, H.kOf, splice, isYl, ↓reduceIte, Nat.reduceEqDiff, Nat.reduceLeDiff, Nat.reduceLT, Nat.reduceAdd, Nat.reduceSub, Nat.reduceMul, Int.reduceLT, Int.reduceLE, Int.reduceEq, Int.reduceAdd, Int.reduceSub, Int.reduceMul, Int.reduceNeg, Int.reduceToNat, reduceCtorEq]
  refine wpA_loop_inv (EqLoop g fs.length (.sl p fs.length c ex) (.sl q fs.length c2 ex2)) ?_ (m := fs.length) ?_
  · rintro mm t g' ⟨i, rfl, hi, e5, e0, e1, rfl⟩
    by_cases hlt : i < fs.length
    · have hlt' : (i : Int) < (fs.length : Int) := by omega
      obtain ⟨b1, s1, all1, ro1, rfl, hb1, hg1, hat1⟩ := r1.resolve_left (by omega)
      obtain ⟨b2, s2, all2, ro2, rfl, hb2, hg2, hat2⟩ := r2.resolve_left (by omega)
      have w1 : all1[s1 + i]? = some [.s fs[i].n, .s fs[i].v, .b fs[i].z] := hat1 i _ (by rw [List.getElem?_map, List.getElem?_eq_getElem hlt]; rfl)
      have w2 : all2[s2 + i]? = some [.s fs[i].n, .s fs[i].v, .b fs[i].z] := hat2 i _ (by rw [List.getElem?_map, List.getElem?_eq_getElem hlt]; rfl)
      have hwr : Go.IntKind.wrap .i64 ((i : Int) + 1) = (i : Int) + 1 := wrap_i64 (by omega) (by omega)
      simp only [↓STEP, SB, looked, behind, lookOk, AAct.kind, AOp.kind, wpRes, evRes, resV, AOp.ev, bin, binI, binS, shiftI, eqV, un, bound, boundO, fill, fillRows, aggOf, keyEq, findKey, putKey, V.cells, V.flat, byteOf, bytesOf, rdOf, H.wr, H.kOf, splice, isYl, ↓reduceIte, Nat.reduceEqDiff, Nat.reduceLeDiff, Nat.reduceLT, Nat.reduceAdd, Nat.reduceSub, Nat.reduceMul, Int.reduceLT, Int.reduceLE, Int.reduceEq, Int.reduceAdd, Int.reduceSub, Int.reduceMul, Int.reduceNeg, Int.reduceToNat, reduceCtorEq, e5, e0, e1, hlt', hg1, hg2, w1, w2, hwr, eq_self, beq_self_eq_true]
      exact ⟨_, by omega, i + 1, rfl, by omega, by simp [v_pd], by simp [v_pd, e0], by simp [v_pd, e1], rfl⟩
    · have hlt' : ¬ (i : Int) < (fs.length : Int) := by omega
      simp only [↓STEP, SB, looked, behind, lookOk, AAct.kind, AOp.kind, wpRes, evRes, resV, AOp.ev, bin, binI, binS, shiftI, eqV, un, bound, boundO, fill, fillRows, aggOf, keyEq, findKey, putKey, V.cells, V.flat, byteOf, bytesOf, rdOf, H.wr, H.kOf, splice, isYl, ↓reduceIte, Nat.reduceEqDiff, Nat.reduceLeDiff, Nat.reduceLT, Nat.reduceAdd, Nat.reduceSub, Nat.reduceMul, Int.reduceLT, Int.reduceLE, Int.reduceEq, Int.reduceAdd, Int.reduceSub, Int.reduceMul, Int.reduceNeg, Int.reduceToNat, reduceCtorEq, e5, e0, e1, hlt']
  · exact ⟨0, rfl, Nat.zero_le _, by simp [v_pd], by simp [v_pd, v_args_cons], by simp [v_pd, v_args_cons], rfl⟩
theorem eqS_runs {k : Nat} (hA : pr.ext k = none) (hfn : pr.fn k = some c_isthmuslaw18_settings) {g : H} {p q : Option (Nat × Nat)} {n m c c2 : Nat} {ex ex2 : Bool} {ss : List St} (h1 : rowsIn g 2 p n (ss.map St.row)) (h2 : rowsIn g 2 q m (ss.map St.row)) (hn : n ≤ 10000000) :
    Runs pr (.fn k) [.sl p n c ex, .sl q m c2 ex2] g (fun v g' => v = .b true ∧ g' = g) := by
  obtain ⟨l1, r1⟩ := h1
  obtain ⟨l2, r2⟩ := h2
  rw [List.length_map] at l1 l2
  subst l1 l2
  refine runs_of_wpF hA hfn ?_
  unfold wpF c_isthmuslaw18_settings
  refine ⟨by simp, ?_⟩
  simp only [↓STEP, SB, looked, behind, lookOk, AAct.kind, AOp.kind, wpRes, evRes, resV, AOp.ev, bin, binI, binS, shiftI, eqV, un, bound, boundO, fill, fillRows, aggOf, keyEq, findKey, putKey, V.cells, V.flat, byteOf, bytesOf, rdOf, H.wr, H.kOf, splice, isYl, ↓reduceIte, Nat.reduceEqDiff, Nat.reduceLeDiff, Nat.reduceLT, Nat.reduceAdd, Nat.reduceSub, Nat.reduceMul, Int.reduceLT, Int.reduceLE, Int.reduceEq, Int.reduceAdd, Int.reduceSub, Int.reduceMul, Int.reduceNeg, Int.reduceToNat, reduceCtorEq]
  refine wpA_loop_inv (EqLoop g ss.length (.sl p ss.length c ex) (.sl q ss.length c2 ex2)) ?_ (m := ss.length) ?_
  · rintro mm t g' ⟨i, rfl, hi, e5, e0, e1, rfl⟩
    by_cases hlt : i < ss.length
    · have hlt' : (i : Int) < (ss.length : Int) := by omega
      obtain ⟨b1, s1, all1, ro1, rfl, hb1, hg1, hat1⟩ := r1.resolve_left (by omega)
      obtain ⟨b2, s2, all2, ro2, rfl, hb2, hg2, hat2⟩ := r2.resolve_left (by omega)
      have w1 : all1[s1 + i]? = some [.i .i64 ss[i].id, .i .i64 ss[i].v] := hat1 i _ (by rw [List.getElem?_map, List.getElem?_eq_getElem hlt]; rfl)
      have w2 : all2[s2 + i]? = some [.i .i64 ss[i].id, .i .i64 ss[i].v] := hat2 i _ (by rw [List.getElem?_map, List.getElem?_eq_getElem hlt]; rfl)
      have hwr : Go.IntKind.wrap .i64 ((i : Int) + 1) = (i : Int) + 1 := wrap_i64 (by omega) (by omega)
      simp only [↓STEP, SB, looked, behind, lookOk, AAct.kind, AOp.kind, wpRes, evRes, resV, AOp.ev, bin, binI, binS, shiftI, eqV, un, bound, boundO, fill, fillRows, aggOf, keyEq, findKey, putKey, V.cells, V.flat, byteOf, bytesOf, rdOf, H.wr, H.kOf, splice, isYl, ↓reduceIte, Nat.reduceEqDiff, Nat.reduceLeDiff, Nat.reduceLT, Nat.reduceAdd, Nat.reduceSub, Nat.reduceMul, Int.reduceLT, Int.reduceLE, Int.reduceEq, Int.reduceAdd, Int.reduceSub, Int.reduceMul, Int.reduceNeg, Int.reduceToNat, reduceCtorEq, e5, e0, e1, hlt', hg1, hg2, w1, w2, hwr, eq_self]
      exact ⟨_, by omega, i + 1, rfl, by omega, by simp [v_pd], by simp [v_pd, e0], by simp [v_pd, e1], rfl⟩
    · have hlt' : ¬ (i : Int) < (ss.length : Int) := by omega
      simp only [↓STEP, SB, looked, behind, lookOk, AAct.kind, AOp.kind, wpRes, evRes, resV, AOp.ev, bin, binI, binS, shiftI, eqV, un, bound, boundO, fill, fillRows, aggOf, keyEq, findKey, putKey, V.cells, V.flat, byteOf, bytesOf, rdOf, H.wr, H.kOf, splice, isYl, ↓reduceIte, Nat.reduceEqDiff, Nat.reduceLeDiff, Nat.reduceLT, Nat.reduceAdd, Nat.reduceSub, Nat.reduceMul, Int.reduceLT, Int.reduceLE, Int.reduceEq, Int.reduceAdd, Int.reduceSub, Int.reduceMul, Int.reduceNeg, Int.reduceToNat, reduceCtorEq, e5, e0, e1, hlt']
  · exact ⟨0, rfl, Nat.zero_le _, by simp [v_pd], by simp [v_pd, v_args_cons], by simp [v_pd, v_args_cons], rfl⟩

theorem OutX.appAny {h0 g : H} {n : Nat} {a : Option (Nat × Nat)} {ex : Bool} {out : List UInt8} (o : OutX h0 g a n ex out) (new : List UInt8) (hn : n + new.length ≤ 35184372088832) :
    ∃ a' ex' g', appBytes g 1 a n n ex new = some (.sl a' (n + new.length) (n + new.length) ex', g') ∧ OutX h0 g' a' (n + new.length) ex' (out ++ new) ∧ Kept h0 g' := by
  by_cases h : new = []
  · subst h
    rw [List.append_nil]
    exact ⟨a, ex, g, appBytes_nil, o, o.kept⟩
  · obtain ⟨b', g', e, o'⟩ := o.app new hn h
    exact ⟨_, _, _, e, o', o'.kept⟩
/-- What reading has to answer. -/
def ReadsF (pr : Prog) (G kr0 : Nat) : Prop := ∀ {h : H} {p : Option (Nat × Nat)} {n c : Nat} {ex0 : Bool} {s : List UInt8} {L : List (List UInt8)} {va vc vd sv : List UInt8} {rest : List Fd} {ss : List St} {J : Nat}, hasG G h = true → G < h.nx →
    rdB h p n = some s → s.length ≤ 20000 → GoodL L va vc vd sv rest → (linesR s).1 = (L ++ [[]]).take J → J ≤ L.length + 1 → (J ≤ L.length → s.length ≤ 16384) →
    decP sv = some (setB ss) → ss.all okSt = true → vc ≠ [] → allP chG vc = true → tellP reqP (fsOf va vc vd rest) = true →
    Runs pr (.fn kr0) [.sl p n c ex0] h (fun v g => Kept h g ∧ (J = L.length + 1 → ∃ a n c ex q m c2 ex2, v = .tup [.agg [.sl a n c ex, .sl q m c2 ex2, .i .i64 (usedAt (L ++ [[]]) (L.length + 1) : Nat)], .i .i64 0] ∧ rowsIn g 3 a n ((fsOf va vc vd rest).map Fd.row) ∧ rowsIn g 2 q m (ss.map St.row)) ∧
      (J ≤ L.length → v = .tup [.agg [.sl none 0 0 true, .sl none 0 0 true, .i .i64 0], .i .i64 3]))
def AsksF (pr : Prog) (kA : Nat) : Prop := ∀ {h : H} {p q : Option (Nat × Nat)} {n c m c2 : Nat} {ex ex2 : Bool} {fs : List Fd} {ss : List St}, rowsIn h 3 p n (fs.map Fd.row) → n ≤ 2000000 → smallF fs → rowsIn h 2 q m (ss.map St.row) → m ≤ 2000000 →
    Runs pr (.fn kA) [.sl p n c ex, .sl q m c2 ex2] h (AskPost h (askF fs ss).1 (askF fs ss).2)

theorem askBack_law {G kb kA kr0 ke ks : Nat} (hb : pr.ext kb = some (xConstG G (.b true))) (hask : AsksF pr kA) (hread : ReadsF pr G kr0) (heA : pr.ext ke = none) (hef : pr.fn ke = some c_isthmusref3_EqFields) (hsA : pr.ext ks = none) (hsf : pr.fn ks = some c_isthmuslaw18_settings)
    {h : H} {p q r : Option (Nat × Nat)} {n c m c2 k c3 : Nat} {ex ex2 ex3 : Bool} {fs : List Fd} {ss : List St} {more : List UInt8} {N : Int} (hG : hasG G h = true) (hG4 : G < h.nx) (hr : rowsIn h 3 p n (fs.map Fd.row)) (hn : n ≤ 2000000) (hsm : smallF fs) (hrs : rowsIn h 2 q m (ss.map St.row)) (hm : m ≤ 2000000) (hmo : rdB h r k = some more) (hk : k ≤ 4000000000000) :
    wpF pr (c_isthmuslaw18_AskBack kb kA kr0 ke ks) [.sl p n c ex, .sl q m c2 ex2, .sl r k c3 ex3, .i .i64 N] h (fun v _ => v = .b true) := by
  have xb := @wpCall_ext pr kb _ hb
  have yb := xConstG_eq (v := .b true) hG
  unfold wpF c_isthmuslaw18_AskBack
  refine ⟨by simp, ?_⟩
  simp only [↓STEP, SB, looked, behind, lookOk, AAct.kind, AOp.kind, wpRes, evRes, resV, AOp.ev, bin, binI, binS, shiftI, eqV, un, bound, boundO, fill, fillRows, aggOf, keyEq, findKey, putKey, V.cells, V.flat, byteOf, bytesOf, rdOf, H.wr, H.kOf, splice, isYl, ↓reduceIte, Nat.reduceEqDiff, Nat.reduceLeDiff, Nat.reduceLT, Nat.reduceAdd, Nat.reduceSub, Nat.reduceMul, Int.reduceLT, Int.reduceLE, Int.reduceEq, Int.reduceAdd, Int.reduceSub, Int.reduceMul, Int.reduceNeg, Int.reduceToNat, reduceCtorEq, xb, yb]
  refine Runs.mono (c := .fn kA) («as» := [.sl p n c ex, .sl q m c2 ex2] ++ []) (hask hr hn hsm hrs hm) ?_
  rintro v g ⟨hkg, a, na, ca, exa, rfl, hca, hrd⟩
  generalize hF : askF fs ss = F at *
  obtain ⟨e, T⟩ := F
  simp only at hrd ⊢
  by_cases he : e = 0
  · by_cases hmore : (1000 : Int) < (k : Int)
    · simp only [↓STEP, SB, looked, behind, lookOk, AAct.kind, AOp.kind, wpRes, evRes, resV, AOp.ev, bin, binI, binS, shiftI, eqV, un, bound, boundO, fill, fillRows, aggOf, keyEq, findKey, putKey, V.cells, V.flat, byteOf, bytesOf, rdOf, H.wr, H.kOf, splice, isYl, ↓reduceIte, Nat.reduceEqDiff, Nat.reduceLeDiff, Nat.reduceLT, Nat.reduceAdd, Nat.reduceSub, Nat.reduceMul, Int.reduceLT, Int.reduceLE, Int.reduceEq, Int.reduceAdd, Int.reduceSub, Int.reduceMul, Int.reduceNeg, Int.reduceToNat, reduceCtorEq, he, hmore]
    · obtain ⟨va, vc, vd, rest, hfs, hT, good, hgood, hok, hvc, hcG, hreq, hTl⟩ := ask_good hF he
      have hTlen := rdB_len hrd
      have hrdg := rdB_bseg hrd
      have he' := eq_true he
      generalize hL : linesA va vc vd (codeP (setB ss)) rest = L at *
      have hTne : T ≠ [] := by rw [hT]; simp [crlf]
      obtain ⟨ab, ar, _, _, rfl, _⟩ := bseg_open hrdg (by have := List.length_pos_iff.2 hTne; omega)
      obtain ⟨b1, g1, e1, o1⟩ := (OutX.nil g).app T (by omega) hTne
      simp only [List.nil_append, Nat.zero_add] at e1 o1
      have hkm : k = more.length := (rdB_len hmo).symm
      have hmb := rdB_bseg (rdB_kept hmo (hkg.trans o1.kept))
      obtain ⟨a2, exx, g2, e2, o2, hk2⟩ := o1.appAny more (by omega)
      have hused : usedAt (L ++ [[]]) (L.length + 1) = T.length := by
        have := usedAt_text (L ++ [[]])
        rw [textL_append, List.length_append (bs := [[]]), List.length_singleton] at this
        rw [this, hT]
        rfl
      have hall : (linesR (T ++ more)).1 = (L ++ [[]]).take (L.length + 1) := by
        rw [hT, List.append_assoc, lines_all L hgood, lines_empty, List.take_of_length_le (by simp)]
      have hdec := dec_code (setB ss)
      have hkg2 := hkg.trans hk2
      simp only [↓STEP, SB, looked, behind, lookOk, AAct.kind, AOp.kind, wpRes, evRes, resV, AOp.ev, bin, binI, binS, shiftI, eqV, un, bound, boundO, fill, fillRows, aggOf, keyEq, findKey, putKey, V.cells, V.flat, byteOf, bytesOf, rdOf, H.wr, H.kOf, splice, isYl, ↓reduceIte, Nat.reduceEqDiff, Nat.reduceLeDiff, Nat.reduceLT, Nat.reduceAdd, Nat.reduceSub, Nat.reduceMul, Int.reduceLT, Int.reduceLE, Int.reduceEq, Int.reduceAdd, Int.reduceSub, Int.reduceMul, Int.reduceNeg, Int.reduceToNat, reduceCtorEq, he', hmore, hrdg, e1, hmb, e2]
      refine Runs.mono (c := .fn kr0) («as» := [.sl a2 (T.length + more.length) (T.length + more.length) exx] ++ []) (hread (hasG_kept hG hkg2 hG4) (by have := hkg2.1; omega) o2.rdB (by rw [List.length_append]; omega) good hall (Nat.le_refl _) (fun hx => by omega) hdec hok hvc hcG (by rw [← hfs]; exact hreq)) ?_
      rintro v g3 ⟨hk3, hw, -⟩
      obtain ⟨a3, n3, c3', ex3', q3, m3, c4, ex4, rfl, w1, w2⟩ := hw rfl
      rw [← hfs] at w1
      rw [hused]
      simp only [↓STEP, SB, looked, behind, lookOk, AAct.kind, AOp.kind, wpRes, evRes, resV, AOp.ev, bin, binI, binS, shiftI, eqV, un, bound, boundO, fill, fillRows, aggOf, keyEq, findKey, putKey, V.cells, V.flat, byteOf, bytesOf, rdOf, H.wr, H.kOf, splice, isYl, ↓reduceIte, Nat.reduceEqDiff, Nat.reduceLeDiff, Nat.reduceLT, Nat.reduceAdd, Nat.reduceSub, Nat.reduceMul, Int.reduceLT, Int.reduceLE, Int.reduceEq, Int.reduceAdd, Int.reduceSub, Int.reduceMul, Int.reduceNeg, Int.reduceToNat, reduceCtorEq]
      generalize hY : H.set (H.push g3 _) _ _ = Y
      have hkY : Kept g3 Y := by rw [← hY]; exact (Kept.push Kept.refl).set (Nat.le_refl _)
      have hnY : Y.nx = g3.nx + 1 := by rw [← hY]; rfl
      have y13 : Y.get g3.nx = some (.rows 3 [[.sl a3 n3 c3' ex3', .sl q3 m3 c4 ex4, .i .i64 T.length]] false) := by rw [← hY, H.get_set, if_pos rfl]
      clear hY
      have hk3' := hkg2.trans hk3
      have hkY' := hk3'.trans hkY
      have hn3 : n3 ≤ 10000000 := by
        have := w1.1
        have h2 := hr.1
        omega
      have hm3 : m3 ≤ 10000000 := by
        have := w2.1
        have h2 := hrs.1
        omega
      refine Runs.mono (c := .fn ke) («as» := [.sl a3 n3 c3' ex3', .sl p n c ex] ++ []) (eqF_runs heA hef (rowsIn_kept w1 hkY) (rowsIn_kept hr hkY') hn3) ?_
      rintro v g' ⟨rfl, rfl⟩
      simp only [↓STEP, SB, looked, behind, lookOk, AAct.kind, AOp.kind, wpRes, evRes, resV, AOp.ev, bin, binI, binS, shiftI, eqV, un, bound, boundO, fill, fillRows, aggOf, keyEq, findKey, putKey, V.cells, V.flat, byteOf, bytesOf, rdOf, H.wr, H.kOf, splice, isYl, ↓reduceIte, Nat.reduceEqDiff, Nat.reduceLeDiff, Nat.reduceLT, Nat.reduceAdd, Nat.reduceSub, Nat.reduceMul, Int.reduceLT, Int.reduceLE, Int.reduceEq, Int.reduceAdd, Int.reduceSub, Int.reduceMul, Int.reduceNeg, Int.reduceToNat, reduceCtorEq, y13]
      refine Runs.mono (c := .fn ks) («as» := [.sl q3 m3 c4 ex4, .sl q m c2 ex2] ++ []) (eqS_runs hsA hsf (rowsIn_kept w2 hkY) (rowsIn_kept hrs hkY') hm3) ?_
      rintro v g'' ⟨rfl, rfl⟩
      have hna : ((T.length : Nat) : Int) = (na : Int) := by omega
      have hrdY : rdB g'' (some (ab, ar)) na = some T := rdB_kept hrd ((hk2.trans hk3).trans hkY)
      have hT0 : 0 < T.length := List.length_pos_iff.2 hTne
      have fin : ∀ M : Nat, M < na → Runs pr (.fn kr0) [.sl (some (ab, ar)) M ca exa] g'' (fun v g5 => Kept g'' g5 ∧ v = .tup [.agg [.sl none 0 0 true, .sl none 0 0 true, .i .i64 0], .i .i64 3]) := fun M hM => by
        obtain ⟨j, hj, hjl⟩ := lines_front L hgood M (by rw [← hT]; omega)
        rw [← hT] at hjl
        refine Runs.mono (hread (J := j) (hasG_kept hG hkY' hG4) (by have := hkY'.1; omega) (rdB_take hrdY (by omega)) (by rw [List.length_take]; omega) good (by rw [hjl, List.take_append_of_le_length hj]) (by omega) (fun _ => by rw [List.length_take]; omega) hdec hok hvc hcG (by rw [← hfs]; exact hreq)) ?_
        rintro v g5 ⟨z1, -, z2⟩
        exact ⟨z1, z2 hj⟩
      have hwn : Go.IntKind.wrap .i64 ((na : Int) - 1) = ((na - 1 : Nat) : Int) := by rw [show (na : Int) - 1 = ((na - 1 : Nat) : Int) by omega]; exact wrap_nat _ (by omega)
      by_cases hN0 : N < 0
      · have hc1 : ((na - 1 : Nat) : Int) ≤ (ca : Int) := by omega
        simp only [↓STEP, SB, looked, behind, lookOk, AAct.kind, AOp.kind, wpRes, evRes, resV, AOp.ev, bin, binI, binS, shiftI, eqV, un, bound, boundO, fill, fillRows, aggOf, keyEq, findKey, putKey, V.cells, V.flat, byteOf, bytesOf, rdOf, H.wr, H.kOf, splice, isYl, ↓reduceIte, Nat.reduceEqDiff, Nat.reduceLeDiff, Nat.reduceLT, Nat.reduceAdd, Nat.reduceSub, Nat.reduceMul, Int.reduceLT, Int.reduceLE, Int.reduceEq, Int.reduceAdd, Int.reduceSub, Int.reduceMul, Int.reduceNeg, Int.reduceToNat, reduceCtorEq, y13, hna, eq_self, hN0, hwn, hc1, Nat.sub_zero, Option.isSome_none]
        refine Runs.mono (c := .fn kr0) («as» := [.sl (some (ab, ar)) (na - 1) ca exa] ++ []) (fin (na - 1) (by omega)) ?_
        rintro v g5 ⟨hk5, rfl⟩
        simp only [↓STEP, SB, looked, behind, lookOk, AAct.kind, AOp.kind, wpRes, evRes, resV, AOp.ev, bin, binI, binS, shiftI, eqV, un, bound, boundO, fill, fillRows, aggOf, keyEq, findKey, putKey, V.cells, V.flat, byteOf, bytesOf, rdOf, H.wr, H.kOf, splice, isYl, ↓reduceIte, Nat.reduceEqDiff, Nat.reduceLeDiff, Nat.reduceLT, Nat.reduceAdd, Nat.reduceSub, Nat.reduceMul, Int.reduceLT, Int.reduceLE, Int.reduceEq, Int.reduceAdd, Int.reduceSub, Int.reduceMul, Int.reduceNeg, Int.reduceToNat, reduceCtorEq]
      · by_cases hN1 : (na : Int) ≤ N
        · have hc1 : ((na - 1 : Nat) : Int) ≤ (ca : Int) := by omega
          simp only [↓STEP, SB, looked, behind, lookOk, AAct.kind, AOp.kind, wpRes, evRes, resV, AOp.ev, bin, binI, binS, shiftI, eqV, un, bound, boundO, fill, fillRows, aggOf, keyEq, findKey, putKey, V.cells, V.flat, byteOf, bytesOf, rdOf, H.wr, H.kOf, splice, isYl, ↓reduceIte, Nat.reduceEqDiff, Nat.reduceLeDiff, Nat.reduceLT, Nat.reduceAdd, Nat.reduceSub, Nat.reduceMul, Int.reduceLT, Int.reduceLE, Int.reduceEq, Int.reduceAdd, Int.reduceSub, Int.reduceMul, Int.reduceNeg, Int.reduceToNat, reduceCtorEq, y13, hna, eq_self, hN0, hN1, hwn, hc1, Nat.sub_zero, Option.isSome_none]
          refine Runs.mono (c := .fn kr0) («as» := [.sl (some (ab, ar)) (na - 1) ca exa] ++ []) (fin (na - 1) (by omega)) ?_
          rintro v g5 ⟨hk5, rfl⟩
          simp only [↓STEP, SB, looked, behind, lookOk, AAct.kind, AOp.kind, wpRes, evRes, resV, AOp.ev, bin, binI, binS, shiftI, eqV, un, bound, boundO, fill, fillRows, aggOf, keyEq, findKey, putKey, V.cells, V.flat, byteOf, bytesOf, rdOf, H.wr, H.kOf, splice, isYl, ↓reduceIte, Nat.reduceEqDiff, Nat.reduceLeDiff, Nat.reduceLT, Nat.reduceAdd, Nat.reduceSub, Nat.reduceMul, Int.reduceLT, Int.reduceLE, Int.reduceEq, Int.reduceAdd, Int.reduceSub, Int.reduceMul, Int.reduceNeg, Int.reduceToNat, reduceCtorEq]
        · obtain ⟨M, rfl⟩ : ∃ M : Nat, N = M := ⟨N.toNat, by omega⟩
          have hc1 : (M : Int) ≤ (ca : Int) := by omega
          simp only [↓STEP, SB, looked, behind, lookOk, AAct.kind, AOp.kind, wpRes, evRes, resV, AOp.ev, bin, binI, binS, shiftI, eqV, un, bound, boundO, fill, fillRows, aggOf, keyEq, findKey, putKey, V.cells, V.flat, byteOf, bytesOf, rdOf, H.wr, H.kOf, splice, isYl, ↓reduceIte, Nat.reduceEqDiff, Nat.reduceLeDiff, Nat.reduceLT, Nat.reduceAdd, Nat.reduceSub, Nat.reduceMul, Int.reduceLT, Int.reduceLE, Int.reduceEq, Int.reduceAdd, Int.reduceSub, Int.reduceMul, Int.reduceNeg, Int.reduceToNat, reduceCtorEq, y13, hna, eq_self, hN0, hN1, hwn, hc1, Nat.sub_zero, Option.isSome_none]
          refine Runs.mono (c := .fn kr0) («as» := [.sl (some (ab, ar)) M ca exa] ++ []) (fin M (by omega)) ?_
          rintro v g5 ⟨hk5, rfl⟩
          simp only [↓STEP, SB, looked, behind, lookOk, AAct.kind, AOp.kind, wpRes, evRes, resV, AOp.ev, bin, binI, binS, shiftI, eqV, un, bound, boundO, fill, fillRows, aggOf, keyEq, findKey, putKey, V.cells, V.flat, byteOf, bytesOf, rdOf, H.wr, H.kOf, splice, isYl, ↓reduceIte, Nat.reduceEqDiff, Nat.reduceLeDiff, Nat.reduceLT, Nat.reduceAdd, Nat.reduceSub, Nat.reduceMul, Int.reduceLT, Int.reduceLE, Int.reduceEq, Int.reduceAdd, Int.reduceSub, Int.reduceMul, Int.reduceNeg, Int.reduceToNat, reduceCtorEq]
  · simp only [↓STEP, SB, looked, behind, lookOk, AAct.kind, AOp.kind, wpRes, evRes, resV, AOp.ev, bin, binI, binS, shiftI, eqV, un, bound, boundO, fill, fillRows, aggOf, keyEq, findKey, putKey, V.cells, V.flat, byteOf, bytesOf, rdOf, H.wr, H.kOf, splice, isYl, ↓reduceIte, Nat.reduceEqDiff, Nat.reduceLeDiff, Nat.reduceLT, Nat.reduceAdd, Nat.reduceSub, Nat.reduceMul, Int.reduceLT, Int.reduceLE, Int.reduceEq, Int.reduceAdd, Int.reduceSub, Int.reduceMul, Int.reduceNeg, Int.reduceToNat, reduceCtorEq, he]

end Am
