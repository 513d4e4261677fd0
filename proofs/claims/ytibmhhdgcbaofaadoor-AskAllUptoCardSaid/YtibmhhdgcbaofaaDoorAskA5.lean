/- A SETTINGS frame, put together by the document. -/
import Derived.Test.YtibmhhdgcbaofaaDoorAskA4
namespace Am
set_option linter.unusedVariables false
set_option linter.unusedSimpArgs false
set_option maxRecDepth 20000
set_option maxHeartbeats 8000000
variable {pr : Prog}

def gWithin7 (ys : List V) (h : H) : Option (V × H) :=
  match ys with
  | [.i .i64 n, .i .i64 m] => some (.b (decide (0 ≤ n) && decide (n ≤ m)), h)
  | _ => none
theorem within7_ok : OkF pr c_isthmusref7_within gWithin7 := by
  intro ys h v h' hg
  unfold gWithin7 at hg
  split at hg
  · rename_i n m
    cases hg
    unfold wpF c_isthmusref7_within
    refine ⟨by simp, ?_⟩
    by_cases h1 : 0 ≤ n
    · by_cases h2 : n ≤ m
      · simp only [↓STEP, SB, looked, behind, lookOk, AAct.kind, AOp.kind, wpRes, evRes, resV, AOp.ev, bin, binI, binS, shiftI, eqV, un, bound, boundO, fill, fillRows, aggOf, keyEq, findKey, putKey, V.cells, V.flat, byteOf, bytesOf, rdOf, H.wr, H.kOf, splice, isYl, ↓reduceIte, Nat.reduceEqDiff, Nat.reduceLeDiff, Nat.reduceLT, Nat.reduceAdd, Nat.reduceSub, Nat.reduceMul, Int.reduceLT, Int.reduceLE, Int.reduceEq, Int.reduceAdd, Int.reduceSub, Int.reduceMul, Int.reduceNeg, Int.reduceToNat, reduceCtorEq, h1, h2]; exact Abs.eq (by simp [h1, h2]) rfl
      · simp only [↓STEP, SB, looked, behind, lookOk, AAct.kind, AOp.kind, wpRes, evRes, resV, AOp.ev, bin, binI, binS, shiftI, eqV, un, bound, boundO, fill, fillRows, aggOf, keyEq, findKey, putKey, V.cells, V.flat, byteOf, bytesOf, rdOf, H.wr, H.kOf, splice, isYl, ↓reduceIte, Nat.reduceEqDiff, Nat.reduceLeDiff, Nat.reduceLT, Nat.reduceAdd, Nat.reduceSub, Nat.reduceMul, Int.reduceLT, Int.reduceLE, Int.reduceEq, Int.reduceAdd, Int.reduceSub, Int.reduceMul, Int.reduceNeg, Int.reduceToNat, reduceCtorEq, h1, h2]; exact Abs.eq (by simp [h1, h2]) rfl
    · simp only [↓STEP, SB, looked, behind, lookOk, AAct.kind, AOp.kind, wpRes, evRes, resV, AOp.ev, bin, binI, binS, shiftI, eqV, un, bound, boundO, fill, fillRows, aggOf, keyEq, findKey, putKey, V.cells, V.flat, byteOf, bytesOf, rdOf, H.wr, H.kOf, splice, isYl, ↓reduceIte, Nat.reduceEqDiff, Nat.reduceLeDiff, Nat.reduceLT, Nat.reduceAdd, Nat.reduceSub, Nat.reduceMul, Int.reduceLT, Int.reduceLE, Int.reduceEq, Int.reduceAdd, Int.reduceSub, Int.reduceMul, Int.reduceNeg, Int.reduceToNat, reduceCtorEq, h1]; exact Abs.eq (by simp [h1]) rfl
  · cases hg
theorem okSt_within (s : St) : okSt s = ((decide (0 ≤ s.id) && decide (s.id ≤ 65535)) && (decide (0 ≤ s.v) && decide (s.v ≤ 4294967295))) := by
  unfold okSt
  rw [decide_eq_decide.2 (by omega : s.v < 4294967296 ↔ s.v ≤ 4294967295)]

def WrongLoop (h : H) (ss : List St) (b : Nat) (m : Nat) (t : Tm) (g : H) : Prop :=
  ∃ i : Nat, m = ss.length - i ∧ i ≤ ss.length ∧ t.v 8 = .i .i64 (i : Nat) ∧ t.v 5 = .p (some (b, 0, 0)) ∧ g = h ∧ (ss.take i).all okSt = true
theorem wrong_runs {kon kwi kwr : Nat} (hA : pr.ext kwr = none) (hfn : pr.fn kwr = some (c_isthmusref7_wrong kon kwi)) (hw : pr.ext kwi = some gWithin7)
    {h : H} {p : Option (Nat × Nat)} {n c : Nat} {ex0 : Bool} {ss : List St} (hr : rowsIn h 2 p n (ss.map St.row)) (hn : n ≤ 10000000) :
    Runs pr (.fn kwr) [.i .i64 4, .i .i64 0, .agg (bodyS p n c ex0)] h (fun v g => v = .b (!ss.all okSt) ∧ Kept h g) := by
  have xw := @wpCall_ext pr kwi _ hw
  have hx : ∀ x y g, gWithin7 [.i .i64 x, .i .i64 y] g = some (.b (decide (0 ≤ x) && decide (x ≤ y)), g) := fun x y g => rfl
  obtain ⟨hlen, hrows⟩ := hr
  rw [List.length_map] at hlen
  subst hlen
  refine runs_of_wpF hA hfn ?_
  unfold wpF c_isthmusref7_wrong
  refine ⟨by simp, ?_⟩
  simp only [↓STEP, SB, looked, behind, lookOk, AAct.kind, AOp.kind, wpRes, evRes, resV, AOp.ev, bin, binI, binS, shiftI, eqV, un, bound, boundO, fill, fillRows, aggOf, keyEq, findKey, putKey, V.cells, V.flat, byteOf, bytesOf, rdOf, H.wr, H.kOf, splice, isYl, ↓reduceIte, Nat.reduceEqDiff, Nat.reduceLeDiff, Nat.reduceLT, Nat.reduceAdd, Nat.reduceSub, Nat.reduceMul, Int.reduceLT, Int.reduceLE, Int.reduceEq, Int.reduceAdd, Int.reduceSub, Int.reduceMul, Int.reduceNeg, Int.reduceToNat, reduceCtorEq, bodyS]
  generalize hG : H.push h _ = G
  have hkG : Kept h G := by rw [← hG]; exact Kept.push Kept.refl
  have g5 : G.get h.nx = some (.rows 11 [bodyS p ss.length c ex0] false) := by rw [← hG]; simp only [↓STEP, SB, looked, behind, lookOk, AAct.kind, AOp.kind, wpRes, evRes, resV, AOp.ev, bin, binI, binS, shiftI, eqV, un, bound, boundO, fill, fillRows, aggOf, keyEq, findKey, putKey, V.cells, V.flat, byteOf, bytesOf, rdOf, H.wr, H.kOf, splice, isYl, ↓reduceIte, Nat.reduceEqDiff, Nat.reduceLeDiff, Nat.reduceLT, Nat.reduceAdd, Nat.reduceSub, Nat.reduceMul, Int.reduceLT, Int.reduceLE, Int.reduceEq, Int.reduceAdd, Int.reduceSub, Int.reduceMul, Int.reduceNeg, Int.reduceToNat, reduceCtorEq]; rfl
  clear hG
  unfold bodyS at g5
  refine wpA_loop_inv (WrongLoop G ss h.nx) ?_ (m := ss.length) ?_
  · rintro m t g ⟨i, rfl, hi, e8, e5, rfl, hall⟩
    by_cases hlt : i < ss.length
    · have hlt' : (i : Int) < (ss.length : Int) := by omega
      obtain ⟨bb, r, all, ro, rfl, hbb, hgb, hat⟩ := hrows.resolve_left (by omega)
      have hgb' : g.get bb = some (.rows 2 all ro) := by rw [hkG.2 bb hbb]; exact hgb
      have hrw : all[r + i]? = some [.i .i64 ss[i].id, .i .i64 ss[i].v] := hat i _ (by rw [List.getElem?_map, List.getElem?_eq_getElem hlt]; rfl)
      have hwr : Go.IntKind.wrap .i64 ((i : Int) + 1) = (i : Int) + 1 := wrap_i64 (by omega) (by omega)
      have hall1 : (ss.take (i + 1)).all okSt = okSt ss[i] := by rw [List.take_add_one, List.getElem?_eq_getElem hlt, List.all_append, hall]; simp
      have bad : okSt ss[i] = false → (V.b true = .b (!ss.all okSt)) := fun hx => by
        have : ss.all okSt = false := by rw [List.all_eq_false]; exact ⟨ss[i], List.getElem_mem hlt, by simpa using hx⟩
        rw [this]; rfl
      have hoks := okSt_within ss[i]
      generalize ss[i] = s at *
      cases hv1 : (decide (0 ≤ s.id) && decide (s.id ≤ 65535)) with
      | false =>
        have hx1 := hx s.id 65535
        rw [hv1] at hx1 hoks
        simp only [↓STEP, SB, looked, behind, lookOk, AAct.kind, AOp.kind, wpRes, evRes, resV, AOp.ev, bin, binI, binS, shiftI, eqV, un, bound, boundO, fill, fillRows, aggOf, keyEq, findKey, putKey, V.cells, V.flat, byteOf, bytesOf, rdOf, H.wr, H.kOf, splice, isYl, ↓reduceIte, Nat.reduceEqDiff, Nat.reduceLeDiff, Nat.reduceLT, Nat.reduceAdd, Nat.reduceSub, Nat.reduceMul, Int.reduceLT, Int.reduceLE, Int.reduceEq, Int.reduceAdd, Int.reduceSub, Int.reduceMul, Int.reduceNeg, Int.reduceToNat, reduceCtorEq, e8, e5, g5, hlt', hgb', hrw, xw, hx1]
        have := bad (by rw [hoks]; rfl)
        simp only [V.b.injEq] at this
        exact ⟨this, hkG⟩
      | true =>
        have hx1 := hx s.id 65535
        rw [hv1] at hx1 hoks
        cases hv2 : (decide (0 ≤ s.v) && decide (s.v ≤ 4294967295)) with
        | false =>
          have hx2 := hx s.v 4294967295
          rw [hv2] at hx2 hoks
          simp only [↓STEP, SB, looked, behind, lookOk, AAct.kind, AOp.kind, wpRes, evRes, resV, AOp.ev, bin, binI, binS, shiftI, eqV, un, bound, boundO, fill, fillRows, aggOf, keyEq, findKey, putKey, V.cells, V.flat, byteOf, bytesOf, rdOf, H.wr, H.kOf, splice, isYl, ↓reduceIte, Nat.reduceEqDiff, Nat.reduceLeDiff, Nat.reduceLT, Nat.reduceAdd, Nat.reduceSub, Nat.reduceMul, Int.reduceLT, Int.reduceLE, Int.reduceEq, Int.reduceAdd, Int.reduceSub, Int.reduceMul, Int.reduceNeg, Int.reduceToNat, reduceCtorEq, e8, e5, g5, hlt', hgb', hrw, xw, hx1, hx2]
          have := bad (by rw [hoks]; rfl)
          simp only [V.b.injEq] at this
          exact ⟨this, hkG⟩
        | true =>
          have hx2 := hx s.v 4294967295
          rw [hv2] at hx2 hoks
          simp only [↓STEP, SB, looked, behind, lookOk, AAct.kind, AOp.kind, wpRes, evRes, resV, AOp.ev, bin, binI, binS, shiftI, eqV, un, bound, boundO, fill, fillRows, aggOf, keyEq, findKey, putKey, V.cells, V.flat, byteOf, bytesOf, rdOf, H.wr, H.kOf, splice, isYl, ↓reduceIte, Nat.reduceEqDiff, Nat.reduceLeDiff, Nat.reduceLT, Nat.reduceAdd, Nat.reduceSub, Nat.reduceMul, Int.reduceLT, Int.reduceLE, Int.reduceEq, Int.reduceAdd, Int.reduceSub, Int.reduceMul, Int.reduceNeg, Int.reduceToNat, reduceCtorEq, e8, e5, g5, hlt', hgb', hrw, xw, hx1, hx2, hwr]
          exact ⟨_, by omega, i + 1, rfl, by omega, by simp [v_pd], by simp [v_pd, e5], rfl, by rw [hall1, hoks]; rfl⟩
    · have hil : i = ss.length := by omega
      have hlt' : ¬ (i : Int) < (ss.length : Int) := by omega
      rw [hil, List.take_length] at hall
      simp only [↓STEP, SB, looked, behind, lookOk, AAct.kind, AOp.kind, wpRes, evRes, resV, AOp.ev, bin, binI, binS, shiftI, eqV, un, bound, boundO, fill, fillRows, aggOf, keyEq, findKey, putKey, V.cells, V.flat, byteOf, bytesOf, rdOf, H.wr, H.kOf, splice, isYl, ↓reduceIte, Nat.reduceEqDiff, Nat.reduceLeDiff, Nat.reduceLT, Nat.reduceAdd, Nat.reduceSub, Nat.reduceMul, Int.reduceLT, Int.reduceLE, Int.reduceEq, Int.reduceAdd, Int.reduceSub, Int.reduceMul, Int.reduceNeg, Int.reduceToNat, reduceCtorEq, e8, e5, g5, hlt']
      rw [hall]
      exact ⟨rfl, hkG⟩
  · exact ⟨0, rfl, Nat.zero_le _, by simp [v_pd], by simp [v_pd], rfl, rfl⟩

def Make7Loop (h G : H) (ss : List St) (b : Nat) (m : Nat) (t : Tm) (g : H) : Prop :=
  ∃ (i : Nat) (a : Option (Nat × Nat)) (n : Nat) (ex : Bool), m = ss.length - i ∧ i ≤ ss.length ∧ t.v 13 = .i .i64 (i : Nat) ∧ t.v 7 = .p (some (h.nx, 0, 0)) ∧ t.v 8 = .p (some (h.nx + 1, 0, 0)) ∧ t.v 0 = .i .i64 4 ∧ t.v 1 = .i .i64 0 ∧ t.v 2 = .i .i64 0 ∧ t.v 65 = .i .i64 4 ∧ t.v 10 = .sl a n n ex ∧ OutX G g a n ex (setB (ss.take i))
theorem make7_runs {kwr kon kpb kbe kwi km : Nat} (hA : pr.ext km = none) (hfn : pr.fn km = some (c_isthmusref7_Make kwr kon kpb kbe)) (hwA : pr.ext kwr = none) (hwf : pr.fn kwr = some (c_isthmusref7_wrong kon kwi)) (hwi : pr.ext kwi = some gWithin7) (hbe : pr.ext kbe = some gBe)
    {h : H} {p : Option (Nat × Nat)} {n c : Nat} {ex0 : Bool} {ss : List St} (hr : rowsIn h 2 p n (ss.map St.row)) (hn : n ≤ 10000000) :
    Runs pr (.fn km) [.i .i64 4, .i .i64 0, .i .i64 0, .agg (bodyS p n c ex0)] h (MakePost h ss) := by
  have xbe := @wpCall_ext pr kbe _ hbe
  refine runs_of_wpF hA hfn ?_
  unfold wpF c_isthmusref7_Make
  refine ⟨by simp, ?_⟩
  simp only [↓STEP, SB, looked, behind, lookOk, AAct.kind, AOp.kind, wpRes, evRes, resV, AOp.ev, bin, binI, binS, shiftI, eqV, un, bound, boundO, fill, fillRows, aggOf, keyEq, findKey, putKey, V.cells, V.flat, byteOf, bytesOf, rdOf, H.wr, H.kOf, splice, isYl, ↓reduceIte, Nat.reduceEqDiff, Nat.reduceLeDiff, Nat.reduceLT, Nat.reduceAdd, Nat.reduceSub, Nat.reduceMul, Int.reduceLT, Int.reduceLE, Int.reduceEq, Int.reduceAdd, Int.reduceSub, Int.reduceMul, Int.reduceNeg, Int.reduceToNat, reduceCtorEq, bodyS]
  generalize hG : H.push (H.push h _) _ = G
  have hkG : Kept h G := by rw [← hG]; exact Kept.push (Kept.push Kept.refl)
  have hnG : G.nx = h.nx + 2 := by rw [← hG]; rfl
  have g7 : G.get h.nx = some (.rows 11 [bodyS p n c ex0] false) := by rw [← hG]; simp only [↓STEP, SB, looked, behind, lookOk, AAct.kind, AOp.kind, wpRes, evRes, resV, AOp.ev, bin, binI, binS, shiftI, eqV, un, bound, boundO, fill, fillRows, aggOf, keyEq, findKey, putKey, V.cells, V.flat, byteOf, bytesOf, rdOf, H.wr, H.kOf, splice, isYl, ↓reduceIte, Nat.reduceEqDiff, Nat.reduceLeDiff, Nat.reduceLT, Nat.reduceAdd, Nat.reduceSub, Nat.reduceMul, Int.reduceLT, Int.reduceLE, Int.reduceEq, Int.reduceAdd, Int.reduceSub, Int.reduceMul, Int.reduceNeg, Int.reduceToNat, reduceCtorEq]; rfl
  have g8 : G.get (h.nx + 1) = some (.rows 4 [[.i .i64 0, .i .i64 0, .i .i64 0, .sl none 0 0 true]] false) := by rw [← hG]; simp only [↓STEP, SB, looked, behind, lookOk, AAct.kind, AOp.kind, wpRes, evRes, resV, AOp.ev, bin, binI, binS, shiftI, eqV, un, bound, boundO, fill, fillRows, aggOf, keyEq, findKey, putKey, V.cells, V.flat, byteOf, bytesOf, rdOf, H.wr, H.kOf, splice, isYl, ↓reduceIte, Nat.reduceEqDiff, Nat.reduceLeDiff, Nat.reduceLT, Nat.reduceAdd, Nat.reduceSub, Nat.reduceMul, Int.reduceLT, Int.reduceLE, Int.reduceEq, Int.reduceAdd, Int.reduceSub, Int.reduceMul, Int.reduceNeg, Int.reduceToNat, reduceCtorEq]
  clear hG
  refine Runs.mono (c := .fn kwr) (as := [.i .i64 4, .i .i64 0, .agg (bodyS p n c ex0)] ++ []) (wrong_runs hwA hwf hwi (rowsIn_kept hr hkG) hn) ?_
  rintro v G1 ⟨rfl, hk1⟩
  obtain ⟨hlen, hrows⟩ := hr
  rw [List.length_map] at hlen
  subst hlen
  have f7 : G1.get h.nx = some (.rows 11 [bodyS p ss.length c ex0] false) := (hk1.2 _ (by omega)).trans g7
  have f8 : G1.get (h.nx + 1) = some (.rows 4 [[.i .i64 0, .i .i64 0, .i .i64 0, .sl none 0 0 true]] false) := (hk1.2 _ (by omega)).trans g8
  have hkk := hkG.trans hk1
  unfold bodyS at f7
  have hnG1 := hk1.1
  cases hok : ss.all okSt with
  | false =>
    have fz : ∀ X : Blk, Kept h (G1.set (h.nx + 1) X) := fun X => hkk.set (by omega)
    simp only [↓STEP, SB, looked, behind, lookOk, AAct.kind, AOp.kind, wpRes, evRes, resV, AOp.ev, bin, binI, binS, shiftI, eqV, un, bound, boundO, fill, fillRows, aggOf, keyEq, findKey, putKey, V.cells, V.flat, byteOf, bytesOf, rdOf, H.wr, H.kOf, splice, isYl, ↓reduceIte, Nat.reduceEqDiff, Nat.reduceLeDiff, Nat.reduceLT, Nat.reduceAdd, Nat.reduceSub, Nat.reduceMul, Int.reduceLT, Int.reduceLE, Int.reduceEq, Int.reduceAdd, Int.reduceSub, Int.reduceMul, Int.reduceNeg, Int.reduceToNat, reduceCtorEq, f7, f8]
    exact ⟨fz _, .inl ⟨hok, rfl⟩⟩
  | true =>
    have hsm : ¬ (16777215 : Int) < (ss.length : Int) := by omega
    simp only [↓STEP, SB, looked, behind, lookOk, AAct.kind, AOp.kind, wpRes, evRes, resV, AOp.ev, bin, binI, binS, shiftI, eqV, un, bound, boundO, fill, fillRows, aggOf, keyEq, findKey, putKey, V.cells, V.flat, byteOf, bytesOf, rdOf, H.wr, H.kOf, splice, isYl, ↓reduceIte, Nat.reduceEqDiff, Nat.reduceLeDiff, Nat.reduceLT, Nat.reduceAdd, Nat.reduceSub, Nat.reduceMul, Int.reduceLT, Int.reduceLE, Int.reduceEq, Int.reduceAdd, Int.reduceSub, Int.reduceMul, Int.reduceNeg, Int.reduceToNat, reduceCtorEq, f7, f8, hsm]
    refine wpA_loop_inv (Make7Loop h G1 ss h.nx) ?_ (m := ss.length) ?_
    · rintro m t g ⟨i, a, n, ex, rfl, hi, e13, e7, e8, e0, e1, e2, e65, e10, o⟩
      have k7 : g.get h.nx = some (.rows 11 [[.sl none 0 0 true, .i .i64 0, .b false, .b false, .i .i64 0, .i .i64 0, .i .i64 0, .i .i64 0, .i .i64 0, .sl p ss.length c ex0, .i .i64 0]] false) := (o.kept.2 _ (by omega)).trans f7
      have k8 : g.get (h.nx + 1) = some (.rows 4 [[.i .i64 0, .i .i64 0, .i .i64 0, .sl none 0 0 true]] false) := (o.kept.2 _ (by omega)).trans f8
      have hsl := setB_len (ss.take i)
      rw [List.length_take, Nat.min_eq_left hi] at hsl
      have hnl := o.len
      rw [hsl] at hnl
      by_cases hlt : i < ss.length
      · have hlt' : (i : Int) < (ss.length : Int) := by omega
        obtain ⟨bb, r, all, ro, rfl, hbb, hgb, hat⟩ := hrows.resolve_left (by omega)
        have hgb' : g.get bb = some (.rows 2 all ro) := by rw [(hkk.trans o.kept).2 bb hbb]; exact hgb
        have hrw : all[r + i]? = some [.i .i64 ss[i].id, .i .i64 ss[i].v] := hat i _ (by rw [List.getElem?_map, List.getElem?_eq_getElem hlt]; rfl)
        have hwr : Go.IntKind.wrap .i64 ((i : Int) + 1) = (i : Int) + 1 := wrap_i64 (by omega) (by omega)
        have hsucc := setB_succ hlt
        have hoks : okSt ss[i] = true := List.all_eq_true.1 hok _ (List.getElem_mem hlt)
        generalize ss[i] = s at *
        obtain ⟨sid, sv⟩ := s
        unfold okSt at hoks
        simp only [Bool.and_eq_true, decide_eq_true_eq] at hoks hrw hsucc
        obtain ⟨N1, rfl⟩ : ∃ N : Nat, sid = N := ⟨sid.toNat, by omega⟩
        obtain ⟨N2, rfl⟩ : ∃ N : Nat, sv = N := ⟨sv.toNat, by omega⟩
        simp only [Int.toNat_natCast] at hsucc
        have y1 := fun g => gBe_eq (N := N1) (s := 2) (h := g) (by omega) (by decide) (by decide)
        have y2 := fun g => gBe_eq (N := N2) (s := 4) (h := g) (by omega) (by decide) (by decide)
        have y1' : ∀ g : H, gBe [.i .i64 (N1 : Int), .i .i64 2] g = some (.sl (some (g.nx, 0)) 2 2 true, g.push (.bytes (beL 2 N1) false)) := y1
        have y2' : ∀ g : H, gBe [.i .i64 (N2 : Int), .i .i64 4] g = some (.sl (some (g.nx, 0)) 4 4 true, g.push (.bytes (beL 4 N2) false)) := y2
        have nb1 : bb ≠ g.nx := by have := (hkk.trans o.kept).1; omega
        have nb2 : h.nx ≠ g.nx := by have := o.kept.1; omega
        have s1 : ((g.push (.bytes (beL 2 N1) false)).push (.bytes (beL 4 N2) false)).bseg (some (g.nx, 0)) 2 = some (beL 2 N1) := by
          refine bseg_kept (h := g.push (.bytes (beL 2 N1) false)) ?_ (fun b hb => by cases hb; exact Nat.lt_succ_self _) (Kept.push Kept.refl)
          have := bseg_tmp g (beL 2 N1)
          rw [beL_len] at this; exact this
        have s2 : ((g.push (.bytes (beL 2 N1) false)).push (.bytes (beL 4 N2) false)).bseg (some (g.nx + 1, 0)) 4 = some (beL 4 N2) := by
          have := bseg_tmp (g.push (.bytes (beL 2 N1) false)) (beL 4 N2)
          rw [beL_len] at this; exact this
        have o1 := (o.push (.bytes (beL 2 N1) false)).push (.bytes (beL 4 N2) false)
        obtain ⟨b1, G2, q1, o2, k2, hb1, _⟩ := o1.appK (beL 2 N1) (by rw [beL_len]; omega) (by intro hz; have := congrArg List.length hz; rw [beL_len] at this; simp at this)
        rw [beL_len] at q1 o2
        have ha_ne : blkOf a ≠ some (g.nx + 1) := by
          intro hb
          rcases o.is with ⟨rfl, _⟩ | ⟨b, rfl, _, _, h4, _⟩
          · cases hb
          · cases hb; exact absurd h4 (Nat.not_lt.2 (Nat.le_succ _))
        have hnx2 : ((g.push (.bytes (beL 2 N1) false)).push (.bytes (beL 4 N2) false)).nx = g.nx + 2 := rfl
        have s3 : G2.bseg (some (g.nx + 1, 0)) 4 = some (beL 4 N2) := by
          unfold H.bseg at s2 ⊢
          rw [if_neg (by decide)] at s2 ⊢
          simp only at s2 ⊢
          rw [k2.2 (g.nx + 1) (by rw [hnx2]; omega) ha_ne]
          exact s2
        obtain ⟨b2, G3, q2, o3, k3, hb2, _⟩ := o2.appK (beL 4 N2) (by rw [beL_len]; omega) (by intro hz; have := congrArg List.length hz; rw [beL_len] at this; simp at this)
        rw [beL_len] at q2 o3
        rw [← hsucc] at o3
        simp only [↓STEP, SB, looked, behind, lookOk, AAct.kind, AOp.kind, wpRes, evRes, resV, AOp.ev, bin, binI, binS, shiftI, eqV, un, bound, boundO, fill, fillRows, aggOf, keyEq, findKey, putKey, V.cells, V.flat, byteOf, bytesOf, rdOf, H.wr, H.kOf, splice, isYl, ↓reduceIte, Nat.reduceEqDiff, Nat.reduceLeDiff, Nat.reduceLT, Nat.reduceAdd, Nat.reduceSub, Nat.reduceMul, Int.reduceLT, Int.reduceLE, Int.reduceEq, Int.reduceAdd, Int.reduceSub, Int.reduceMul, Int.reduceNeg, Int.reduceToNat, reduceCtorEq, e13, e7, e8, e0, e1, e2, e65, e10, k7, hlt', hgb', hrw, xbe, y1', y2', nb1, nb2, s1, q1, s3, q2, hwr]
        exact ⟨_, by omega, i + 1, some (b2, 0), n + 2 + 4, false, rfl, by omega, by simp [v_pd], by simp [v_pd, e7], by simp [v_pd, e8], by simp [v_pd, e0], by simp [v_pd, e1], by simp [v_pd, e2], by simp [v_pd, e65], by simp [v_pd], o3⟩
      · have hil : i = ss.length := by omega
        subst hil
        have hlt' : ¬ (ss.length : Int) < (ss.length : Int) := by omega
        rw [List.take_length] at o
        have hkf := hkk.trans o.kept
        have fz : ∀ X : Blk, Kept h (g.set (h.nx + 1) X) := fun X => hkf.set (by omega)
        by_cases hbig : (16777215 : Int) < n
        · simp only [↓STEP, SB, looked, behind, lookOk, AAct.kind, AOp.kind, wpRes, evRes, resV, AOp.ev, bin, binI, binS, shiftI, eqV, un, bound, boundO, fill, fillRows, aggOf, keyEq, findKey, putKey, V.cells, V.flat, byteOf, bytesOf, rdOf, H.wr, H.kOf, splice, isYl, ↓reduceIte, Nat.reduceEqDiff, Nat.reduceLeDiff, Nat.reduceLT, Nat.reduceAdd, Nat.reduceSub, Nat.reduceMul, Int.reduceLT, Int.reduceLE, Int.reduceEq, Int.reduceAdd, Int.reduceSub, Int.reduceMul, Int.reduceNeg, Int.reduceToNat, reduceCtorEq, e13, e7, e8, e0, e1, e2, e65, e10, k7, k8, hlt', hbig]
          exact ⟨fz _, .inr (.inl ⟨hok, by omega, rfl⟩)⟩
        · have frd : ∀ X : Blk, rdB (g.set (h.nx + 1) X) a n = some (setB ss) := fun X => by
            rcases o.is with ⟨rfl, h2, rfl⟩ | ⟨b, rfl, rfl, h3, h4, h5, h6⟩
            · have he : setB ss = [] := List.eq_nil_of_length_eq_zero (by rw [setB_len]; omega)
              rw [h2, he]
              exact rdB_of bseg_zero fun b hb => by cases hb
            · refine rdB_of ?_ fun b' hb => by cases hb; exact h4
              have := o.bseg
              unfold H.bseg at this ⊢
              by_cases hz : n = 0
              · rw [if_pos hz] at this ⊢; exact this
              · rw [if_neg hz] at this ⊢
                have hg2 : (g.set (h.nx + 1) X).get b = g.get b := by rw [H.get_set, if_neg (by omega)]
                simp only [hg2]
                exact this
          simp only [↓STEP, SB, looked, behind, lookOk, AAct.kind, AOp.kind, wpRes, evRes, resV, AOp.ev, bin, binI, binS, shiftI, eqV, un, bound, boundO, fill, fillRows, aggOf, keyEq, findKey, putKey, V.cells, V.flat, byteOf, bytesOf, rdOf, H.wr, H.kOf, splice, isYl, ↓reduceIte, Nat.reduceEqDiff, Nat.reduceLeDiff, Nat.reduceLT, Nat.reduceAdd, Nat.reduceSub, Nat.reduceMul, Int.reduceLT, Int.reduceLE, Int.reduceEq, Int.reduceAdd, Int.reduceSub, Int.reduceMul, Int.reduceNeg, Int.reduceToNat, reduceCtorEq, e13, e7, e8, e0, e1, e2, e65, e10, k7, k8, hlt', hbig]
          exact ⟨fz _, .inr (.inr ⟨hok, by omega, _, _, _, rfl, frd _⟩)⟩
    · exact ⟨0, none, 0, true, rfl, Nat.zero_le _, by simp [v_pd, v_pd0], by simp [v_pd, v_pd0], by simp [v_pd, v_pd0], by simp [v_pd, v_pd0, v_args_cons], by simp [v_pd, v_pd0, v_args_cons], by simp [v_pd, v_pd0, v_args_cons], by simp [v_pd, v_pd0], by simp [v_pd, v_pd0], OutX.nil G1⟩

end Am
