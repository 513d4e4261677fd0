/- A request, read: whole, or a front of it. -/
import Derived.Test.YtibmhhdgcbaofaaDoorAskR2
import Derived.Test.YtibmhhdgcbaofaaDoorAskR5
namespace Am
set_option linter.unusedVariables false
set_option linter.unusedSimpArgs false
set_option maxRecDepth 20000
set_option maxHeartbeats 8000000
variable {pr : Prog}

def usedAt (ls : List (List UInt8)) (j : Nat) : Nat := ((ls.take j).map fun l => l.length + 2).sum
theorem usedAt_succ {ls : List (List UInt8)} {j : Nat} {l : List UInt8} (h : ls[j]? = some l) : usedAt ls (j + 1) = usedAt ls j + (l.length + 2) := by
  unfold usedAt; rw [List.take_add_one, h, List.map_append, List.sum_append]; simp
theorem usedAt_le (ls : List (List UInt8)) : ∀ j, usedAt ls j ≤ usedAt ls ls.length := by
  intro j
  by_cases h : j ≤ ls.length
  · unfold usedAt
    rw [List.take_length]
    conv => rhs; rw [← List.take_append_drop j ls, List.map_append, List.sum_append]
    omega
  · unfold usedAt; rw [List.take_length, List.take_of_length_le (by omega)]; exact Nat.le_refl _

theorem usedAt_ge {ls : List (List UInt8)} : ∀ j, j ≤ ls.length → 2 * j ≤ usedAt ls j
  | 0, _ => Nat.zero_le _
  | j + 1, h => by
    have := usedAt_ge (ls := ls) j (by omega)
    rw [usedAt_succ (List.getElem?_eq_getElem (by omega))]
    omega
theorem rowsIn_setNe {g : H} {k n i : Nat} {a : Option (Nat × Nat)} {rs : List (List V)} {X : Blk} (hr : rowsIn g k a n rs) (hi : ∀ all ro, g.get i = some (.rows k all ro) → ∀ r : Nat, ∃ (j : Nat) (row : List V), rs[j]? = some row ∧ all[r + j]? ≠ some row) : rowsIn (g.set i X) k a n rs := by
  refine rowsIn_set hr ?_
  rintro b r all ro hb hg hat h0 rfl
  obtain ⟨j, row, h1, h2⟩ := hi all ro hg r
  exact h2 (hat j row h1)
theorem rowsIn_fs {g : H} {n i : Nat} {a : Option (Nat × Nat)} {m hv p : List UInt8} {rest : List Fd} {X : Blk} {v : V} {r1 : List V} (hr : rowsIn g 3 a n ((fsOf m hv p rest).map Fd.row)) (hi : (∃ x c d e f, g.get i = some (.rows 3 [[.sl x c d e, f, v]] false)) ∨ ∀ all ro, g.get i ≠ some (.rows 3 all ro)) : rowsIn (g.set i X) 3 a n ((fsOf m hv p rest).map Fd.row) := by
  refine rowsIn_setNe hr fun all ro hg r => ⟨0, _, rfl, ?_⟩
  rcases hi with ⟨x, c, d, e, f, hi⟩ | hi
  · rw [hi] at hg
    cases hg
    rcases r with _ | r
    · intro hx; cases hx
    · intro hx; cases hx
  · exact absurd hg (hi all ro)
theorem rowsIn_st {g : H} {n i : Nat} {a : Option (Nat × Nat)} {rs : List (List V)} {X : Blk} (hr : rowsIn g 2 a n rs) (hi : ∀ all ro, g.get i ≠ some (.rows 2 all ro)) : rowsIn (g.set i X) 2 a n rs :=
  rowsIn_setNe hr fun all ro hg r => absurd hg (hi all ro)
theorem rowsIn_kill {g : H} {k n i : Nat} {a : Option (Nat × Nat)} {rs : List (List V)} {L : LoopSt} (hr : rowsIn g k a n rs) (hi : g.get i = some (.loop L)) : rowsIn (g.kill i) k a n rs := by
  obtain ⟨l, r⟩ := hr
  by_cases h0 : n = 0
  · exact ⟨l, .inl h0⟩
  · obtain ⟨b, s, all, ro, e, hb, hg, hat⟩ := r.resolve_left h0
    exact ⟨l, .inr ⟨b, s, all, ro, e, hb, by rw [H.get_kill, if_neg (by rintro rfl; rw [hi] at hg; cases hg)]; exact hg, hat⟩⟩
theorem OutR.moved {h0 g g' : H} {k n : Nat} {a : Option (Nat × Nat)} {ex : Bool} {out : List (List V)} (o : OutR h0 g k a n ex out) (hk : Kept h0 g') (hb : ∀ b, blkOf a = some b → b < g.nx → b < g'.nx ∧ g'.get b = g.get b) : OutR h0 g' k a n ex out := by
  refine ⟨hk, o.len, ?_⟩
  rcases o.is with h | ⟨b, h1, h2, h3, h4, h5, h6⟩
  · exact .inl h
  · obtain ⟨x, y⟩ := hb b (by rw [h1]; rfl) h4
    exact .inr ⟨b, h1, h2, h3, x, y.trans h5, h6⟩

structure GoodL (L : List (List UInt8)) (va vc vd sv : List UInt8) (rest : List Fd) : Prop where
  len : L.length = 5 + rest.length
  ne : ∀ (i : Nat) l, L[i]? = some l → l ≠ []
  first : ∀ l, L[0]? = some l → firM l = va ∧ firP l = vd ∧ firB l = true
  key : ∀ (i : Nat) l q, L[i + 1]? = some l → (linM vc sv)[i]? = some q → linB l = true ∧ linN l = q.1 ∧ linV l = q.2
  fld : ∀ (i : Nat) l f, L[i + 5]? = some l → rest[i]? = some f → linB l = true ∧ linN l = f.n ∧ linV l = f.v ∧ f.z = false ∧ plainN f.n = true
  sum : usedAt (L ++ [[]]) (L.length + 1) ≤ 16384
  svl : sv.length ≤ 16384
  vcl : vc.length ≤ 16384

def RInv (h : H) (L : List (List UInt8)) (va vc vd sv : List UInt8) (rest : List Fd) (LS : LoopSt) (j : Nat) (g : H) : Prop :=
  j ≤ L.length ∧ Kept h g ∧ h.nx + 7 < g.nx ∧ g.get h.nx = some (.rows 3 [[.sl none 0 0 true, .sl none 0 0 true, .i .i64 0]] false) ∧ g.get (h.nx + 1) = some (.rows 1 [[.i .i64 0]] false) ∧ g.get (h.nx + 2) = some (.map (ents ((linM vc sv).take (j - 1)))) ∧
    g.get (h.nx + 4) = some (.rows 1 [[.p (some (h.nx + 3, 0, 0))]] false) ∧ g.get (h.nx + 5) = some (.rows 1 [[.i .i64 (usedAt (L ++ [[]]) j : Nat)]] false) ∧ g.get (h.nx + 7) = some (.loop LS) ∧
    ∃ a k ex, g.get (h.nx + 3) = some (reqRow (if j = 0 then [] else va) (if j = 0 then [] else vd) a k ex (h.nx + 2)) ∧ OutR h g 3 a k ex ((rest.take (j - 5)).map Fd.row) ∧ (∀ b, blkOf a = some b → h.nx + 7 < b)
def RDone (h : H) (fs : List Fd) (ss : List St) (used : Nat) (g : H) : Prop :=
  ∃ LS, Kept h g ∧ h.nx + 7 < g.nx ∧ g.get (h.nx + 7) = some (.loop LS) ∧ LS.st = .done ∧ LS.pend = .ret ∧ g.get (h.nx + 1) = some (.rows 1 [[.i .i64 0]] false) ∧
    ∃ a n c ex q m c2 ex2, g.get h.nx = some (.rows 3 [[.sl a n c ex, .sl q m c2 ex2, .i .i64 used]] false) ∧ rowsIn g 3 a n (fs.map Fd.row) ∧ rowsIn g 2 q m (ss.map St.row)

theorem read_runs {G kLi kL1 kfi kas kli kta kc kr0 kd ka kg kt kr kf kq kpl kb ks kcl kpr kn kpd : Nat} (hA : pr.ext kr0 = none) (hfn : pr.fn kr0 = some (c_upgrade_Read kLi kfi kas kli kta)) (hLi : pr.ext kLi = some (gLines kL1)) (hLA : pr.ext kL1 = none) (hLf : pr.fn kL1 = some (c_upgrade_Lines_1 kc)) (hc : pr.ext kc = some (gCutA G))
    (hfi : pr.ext kfi = some (gFirst G)) (hli : pr.ext kli = some (gLine G)) (htA : pr.ext kta = none) (htf : pr.fn kta = some c_upgrade_request_takes)
    (haA : pr.ext kas = none) (haf : pr.fn kas = some (c_upgrade_request_asked kd ka kg kf kq)) (hd : pr.ext kd = some gDec) (hall : pr.ext ka = some (gAllB kg kt kr)) (hq : pr.ext kq = some (gTell reqP))
    (hfA : pr.ext kf = none) (hff : pr.fn kf = some (c_frame_Read kpl kb ks kcl kpr kn)) (hpl : pr.ext kpl = some gPlace) (hbA : pr.ext kb = none) (hbf : pr.fn kb = some (c_frame_bare kpd)) (hpd : pr.ext kpd = some gPadded) (hs : pr.ext ks = some gSized) (hn : pr.ext kn = some gNum)
    {h : H} {p : Option (Nat × Nat)} {n c : Nat} {ex0 : Bool} {s : List UInt8} {L : List (List UInt8)} {va vc vd sv : List UInt8} {rest : List Fd} {ss : List St} {J : Nat} (hG : hasG G h = true) (hG4 : G < h.nx)
    (hs0 : rdB h p n = some s) (hsl : s.length ≤ 20000) (good : GoodL L va vc vd sv rest) (hJ : (linesR s).1 = (L ++ [[]]).take J) (hJ1 : J ≤ L.length + 1) (hbig : J ≤ L.length → s.length ≤ 16384)
    (hsv : decP sv = some (setB ss)) (hok : ss.all okSt = true) (hhv : vc ≠ []) (hg : allP chG vc = true) (hreq : tellP reqP (fsOf va vc vd rest) = true) :
    Runs pr (.fn kr0) [.sl p n c ex0] h (fun v g => Kept h g ∧ (J = L.length + 1 → ∃ a n c ex q m c2 ex2, v = .tup [.agg [.sl a n c ex, .sl q m c2 ex2, .i .i64 (usedAt (L ++ [[]]) (L.length + 1) : Nat)], .i .i64 0] ∧ rowsIn g 3 a n ((fsOf va vc vd rest).map Fd.row) ∧ rowsIn g 2 q m (ss.map St.row)) ∧
      (J ≤ L.length → v = .tup [.agg [.sl none 0 0 true, .sl none 0 0 true, .i .i64 0], .i .i64 3])) := by
  have xLi := @wpCall_ext pr kLi _ hLi
  have xfi := @wpCall_ext pr kfi _ hfi
  have xli := @wpCall_ext pr kli _ hli
  have yLi : ∀ g, gLines kL1 [.sl p n c ex0] g = some (.f (.fn kL1) [.p (some (g.nx, 0, 0))], g.push (.rows 1 [[.sl p n c ex0]] false)) := fun g => rfl
  have hslen := rdB_len hs0
  refine runs_of_wpF hA hfn ?_
  unfold wpF c_upgrade_Read
  refine ⟨by simp, ?_⟩
  simp only [↓STEP, SB, looked, behind, lookOk, AAct.kind, AOp.kind, wpRes, evRes, resV, AOp.ev, bin, binI, binS, shiftI, eqV, un, bound, boundO, fill, fillRows, aggOf, keyEq, findKey, putKey, V.cells, V.flat, byteOf, bytesOf, rdOf, H.wr, H.kOf, splice, isYl, ↓reduceIte, Nat.reduceEqDiff, Nat.reduceLeDiff, Nat.reduceLT, Nat.reduceAdd, Nat.reduceSub, Nat.reduceMul, Int.reduceLT, Int.reduceLE, Int.reduceEq, Int.reduceAdd, Int.reduceSub, Int.reduceMul, Int.reduceNeg, Int.reduceToNat, reduceCtorEq, xLi, yLi]
  refine wpA_rfn rfl (k := kL1) (caps := [.p (some (h.nx + 6, 0, 0))]) ?_ ?_
  · simp only [↓STEP, SB, looked, behind, lookOk, AAct.kind, AOp.kind, wpRes, evRes, resV, AOp.ev, bin, binI, binS, shiftI, eqV, un, bound, boundO, fill, fillRows, aggOf, keyEq, findKey, putKey, V.cells, V.flat, byteOf, bytesOf, rdOf, H.wr, H.kOf, splice, isYl, ↓reduceIte, Nat.reduceEqDiff, Nat.reduceLeDiff, Nat.reduceLT, Nat.reduceAdd, Nat.reduceSub, Nat.reduceMul, Int.reduceLT, Int.reduceLE, Int.reduceEq, Int.reduceAdd, Int.reduceSub, Int.reduceMul, Int.reduceNeg, Int.reduceToNat, reduceCtorEq]
  · simp only [↓STEP, SB, looked, behind, lookOk, AAct.kind, AOp.kind, wpRes, evRes, resV, AOp.ev, bin, binI, binS, shiftI, eqV, un, bound, boundO, fill, fillRows, aggOf, keyEq, findKey, putKey, V.cells, V.flat, byteOf, bytesOf, rdOf, H.wr, H.kOf, splice, isYl, ↓reduceIte, Nat.reduceEqDiff, Nat.reduceLeDiff, Nat.reduceLT, Nat.reduceAdd, Nat.reduceSub, Nat.reduceMul, Int.reduceLT, Int.reduceLE, Int.reduceEq, Int.reduceAdd, Int.reduceSub, Int.reduceMul, Int.reduceNeg, Int.reduceToNat, reduceCtorEq]
    generalize hLS : LoopSt.mk _ _ _ _ _ _ _ = LS
    have r2 : LS.tm.v 2 = .p (some (h.nx, 0, 0)) := by rw [← hLS]; simp only [↓STEP, SB, looked, behind, lookOk, AAct.kind, AOp.kind, wpRes, evRes, resV, AOp.ev, bin, binI, binS, shiftI, eqV, un, bound, boundO, fill, fillRows, aggOf, keyEq, findKey, putKey, V.cells, V.flat, byteOf, bytesOf, rdOf, H.wr, H.kOf, splice, isYl, ↓reduceIte, Nat.reduceEqDiff, Nat.reduceLeDiff, Nat.reduceLT, Nat.reduceAdd, Nat.reduceSub, Nat.reduceMul, Int.reduceLT, Int.reduceLE, Int.reduceEq, Int.reduceAdd, Int.reduceSub, Int.reduceMul, Int.reduceNeg, Int.reduceToNat, reduceCtorEq]
    have r3 : LS.tm.v 3 = .p (some (h.nx + 1, 0, 0)) := by rw [← hLS]; simp only [↓STEP, SB, looked, behind, lookOk, AAct.kind, AOp.kind, wpRes, evRes, resV, AOp.ev, bin, binI, binS, shiftI, eqV, un, bound, boundO, fill, fillRows, aggOf, keyEq, findKey, putKey, V.cells, V.flat, byteOf, bytesOf, rdOf, H.wr, H.kOf, splice, isYl, ↓reduceIte, Nat.reduceEqDiff, Nat.reduceLeDiff, Nat.reduceLT, Nat.reduceAdd, Nat.reduceSub, Nat.reduceMul, Int.reduceLT, Int.reduceLE, Int.reduceEq, Int.reduceAdd, Int.reduceSub, Int.reduceMul, Int.reduceNeg, Int.reduceToNat, reduceCtorEq]
    have r4 : LS.tm.v 4 = .p (some (h.nx + 4, 0, 0)) := by rw [← hLS]; simp only [↓STEP, SB, looked, behind, lookOk, AAct.kind, AOp.kind, wpRes, evRes, resV, AOp.ev, bin, binI, binS, shiftI, eqV, un, bound, boundO, fill, fillRows, aggOf, keyEq, findKey, putKey, V.cells, V.flat, byteOf, bytesOf, rdOf, H.wr, H.kOf, splice, isYl, ↓reduceIte, Nat.reduceEqDiff, Nat.reduceLeDiff, Nat.reduceLT, Nat.reduceAdd, Nat.reduceSub, Nat.reduceMul, Int.reduceLT, Int.reduceLE, Int.reduceEq, Int.reduceAdd, Int.reduceSub, Int.reduceMul, Int.reduceNeg, Int.reduceToNat, reduceCtorEq]
    have r5 : LS.tm.v 5 = .p (some (h.nx + 5, 0, 0)) := by rw [← hLS]; simp only [↓STEP, SB, looked, behind, lookOk, AAct.kind, AOp.kind, wpRes, evRes, resV, AOp.ev, bin, binI, binS, shiftI, eqV, un, bound, boundO, fill, fillRows, aggOf, keyEq, findKey, putKey, V.cells, V.flat, byteOf, bytesOf, rdOf, H.wr, H.kOf, splice, isYl, ↓reduceIte, Nat.reduceEqDiff, Nat.reduceLeDiff, Nat.reduceLT, Nat.reduceAdd, Nat.reduceSub, Nat.reduceMul, Int.reduceLT, Int.reduceLE, Int.reduceEq, Int.reduceAdd, Int.reduceSub, Int.reduceMul, Int.reduceNeg, Int.reduceToNat, reduceCtorEq]
    have qs := congrArg LoopSt.st hLS
    have qpd : LS.pend = .normal := (congrArg LoopSt.pend hLS).symm
    have qLS : LoopSt.mk LoopState.ready Ex.normal LS.tm LS.nt LS.params LS.assign LS.body = LS := by rw [← hLS]
    simp only at qs
    generalize hH : H.push _ (Blk.loop LS) = g0
    have hk0 : Kept h g0 := by rw [← hH]; exact Kept.push (Kept.push (Kept.set (Kept.push (Kept.set (Kept.push (Kept.push (Kept.push (Kept.push (Kept.push Kept.refl))))) (by omega))) (by omega)))
    have hcell : g0.get (h.nx + 6) = some (.rows 1 [[.sl p n c ex0]] false) := by rw [← hH]; simp only [↓STEP, SB, looked, behind, lookOk, AAct.kind, AOp.kind, wpRes, evRes, resV, AOp.ev, bin, binI, binS, shiftI, eqV, un, bound, boundO, fill, fillRows, aggOf, keyEq, findKey, putKey, V.cells, V.flat, byteOf, bytesOf, rdOf, H.wr, H.kOf, splice, isYl, ↓reduceIte, Nat.reduceEqDiff, Nat.reduceLeDiff, Nat.reduceLT, Nat.reduceAdd, Nat.reduceSub, Nat.reduceMul, Int.reduceLT, Int.reduceLE, Int.reduceEq, Int.reduceAdd, Int.reduceSub, Int.reduceMul, Int.reduceNeg, Int.reduceToNat, reduceCtorEq]
    have f : ∀ a b : Nat, a ≠ b → h.nx + a ≠ h.nx + b := fun a b hab => by omega
    have f01 : ∀ a : Nat, 0 < a → h.nx ≠ h.nx + a := fun a ha => by omega
    have hinv0 : RInv h L va vc vd sv rest LS 0 g0 := by
      refine ⟨Nat.zero_le _, hk0, ?_, ?_, ?_, ?_, ?_, ?_, ?_, none, 0, true, ?_, ⟨hk0, rfl, .inl ⟨rfl, rfl, rfl⟩⟩, fun b hb => by cases hb⟩ <;> rw [← hH]
      · show h.nx + 7 < h.nx + 8; omega
      · simp only [↓STEP, SB, looked, behind, lookOk, AAct.kind, AOp.kind, wpRes, evRes, resV, AOp.ev, bin, binI, binS, shiftI, eqV, un, bound, boundO, fill, fillRows, aggOf, keyEq, findKey, putKey, V.cells, V.flat, byteOf, bytesOf, rdOf, H.wr, H.kOf, splice, isYl, ↓reduceIte, Nat.reduceEqDiff, Nat.reduceLeDiff, Nat.reduceLT, Nat.reduceAdd, Nat.reduceSub, Nat.reduceMul, Int.reduceLT, Int.reduceLE, Int.reduceEq, Int.reduceAdd, Int.reduceSub, Int.reduceMul, Int.reduceNeg, Int.reduceToNat, reduceCtorEq, f01 1 (by decide), f01 2 (by decide), f01 3 (by decide), f01 4 (by decide), f01 5 (by decide), f01 6 (by decide), f01 7 (by decide)]
      · simp only [↓STEP, SB, looked, behind, lookOk, AAct.kind, AOp.kind, wpRes, evRes, resV, AOp.ev, bin, binI, binS, shiftI, eqV, un, bound, boundO, fill, fillRows, aggOf, keyEq, findKey, putKey, V.cells, V.flat, byteOf, bytesOf, rdOf, H.wr, H.kOf, splice, isYl, ↓reduceIte, Nat.reduceEqDiff, Nat.reduceLeDiff, Nat.reduceLT, Nat.reduceAdd, Nat.reduceSub, Nat.reduceMul, Int.reduceLT, Int.reduceLE, Int.reduceEq, Int.reduceAdd, Int.reduceSub, Int.reduceMul, Int.reduceNeg, Int.reduceToNat, reduceCtorEq, f 1 2 (by decide), f 1 3 (by decide), f 1 4 (by decide), f 1 5 (by decide), f 1 6 (by decide), f 1 7 (by decide)]
      · simp only [↓STEP, SB, looked, behind, lookOk, AAct.kind, AOp.kind, wpRes, evRes, resV, AOp.ev, bin, binI, binS, shiftI, eqV, un, bound, boundO, fill, fillRows, aggOf, keyEq, findKey, putKey, V.cells, V.flat, byteOf, bytesOf, rdOf, H.wr, H.kOf, splice, isYl, ↓reduceIte, Nat.reduceEqDiff, Nat.reduceLeDiff, Nat.reduceLT, Nat.reduceAdd, Nat.reduceSub, Nat.reduceMul, Int.reduceLT, Int.reduceLE, Int.reduceEq, Int.reduceAdd, Int.reduceSub, Int.reduceMul, Int.reduceNeg, Int.reduceToNat, reduceCtorEq, f 2 3 (by decide), f 2 4 (by decide), f 2 5 (by decide), f 2 6 (by decide), f 2 7 (by decide)]
        rfl
      · simp only [↓STEP, SB, looked, behind, lookOk, AAct.kind, AOp.kind, wpRes, evRes, resV, AOp.ev, bin, binI, binS, shiftI, eqV, un, bound, boundO, fill, fillRows, aggOf, keyEq, findKey, putKey, V.cells, V.flat, byteOf, bytesOf, rdOf, H.wr, H.kOf, splice, isYl, ↓reduceIte, Nat.reduceEqDiff, Nat.reduceLeDiff, Nat.reduceLT, Nat.reduceAdd, Nat.reduceSub, Nat.reduceMul, Int.reduceLT, Int.reduceLE, Int.reduceEq, Int.reduceAdd, Int.reduceSub, Int.reduceMul, Int.reduceNeg, Int.reduceToNat, reduceCtorEq, f 4 5 (by decide), f 4 6 (by decide), f 4 7 (by decide)]
      · simp only [↓STEP, SB, looked, behind, lookOk, AAct.kind, AOp.kind, wpRes, evRes, resV, AOp.ev, bin, binI, binS, shiftI, eqV, un, bound, boundO, fill, fillRows, aggOf, keyEq, findKey, putKey, V.cells, V.flat, byteOf, bytesOf, rdOf, H.wr, H.kOf, splice, isYl, ↓reduceIte, Nat.reduceEqDiff, Nat.reduceLeDiff, Nat.reduceLT, Nat.reduceAdd, Nat.reduceSub, Nat.reduceMul, Int.reduceLT, Int.reduceLE, Int.reduceEq, Int.reduceAdd, Int.reduceSub, Int.reduceMul, Int.reduceNeg, Int.reduceToNat, reduceCtorEq, f 5 6 (by decide), f 5 7 (by decide)]
        rfl
      · simp only [↓STEP, SB, looked, behind, lookOk, AAct.kind, AOp.kind, wpRes, evRes, resV, AOp.ev, bin, binI, binS, shiftI, eqV, un, bound, boundO, fill, fillRows, aggOf, keyEq, findKey, putKey, V.cells, V.flat, byteOf, bytesOf, rdOf, H.wr, H.kOf, splice, isYl, ↓reduceIte, Nat.reduceEqDiff, Nat.reduceLeDiff, Nat.reduceLT, Nat.reduceAdd, Nat.reduceSub, Nat.reduceMul, Int.reduceLT, Int.reduceLE, Int.reduceEq, Int.reduceAdd, Int.reduceSub, Int.reduceMul, Int.reduceNeg, Int.reduceToNat, reduceCtorEq]
      · simp only [↓STEP, SB, looked, behind, lookOk, AAct.kind, AOp.kind, wpRes, evRes, resV, AOp.ev, bin, binI, binS, shiftI, eqV, un, bound, boundO, fill, fillRows, aggOf, keyEq, findKey, putKey, V.cells, V.flat, byteOf, bytesOf, rdOf, H.wr, H.kOf, splice, isYl, ↓reduceIte, Nat.reduceEqDiff, Nat.reduceLeDiff, Nat.reduceLT, Nat.reduceAdd, Nat.reduceSub, Nat.reduceMul, Int.reduceLT, Int.reduceLE, Int.reduceEq, Int.reduceAdd, Int.reduceSub, Int.reduceMul, Int.reduceNeg, Int.reduceToNat, reduceCtorEq, f 3 4 (by decide), f 3 5 (by decide), f 3 6 (by decide), f 3 7 (by decide)]
        rfl
    clear hH
    have hlsl := (linesR_len s.length s (Nat.le_refl _)).1
    have hlines : ∀ j l, (linesR s).1[j]? = some l → (L ++ [[]])[j]? = some l ∧ l.length ≤ 20000 ∧ j < J := fun j l hjl => by
      have hmem := (linesR_len s.length s (Nat.le_refl _)).2.2 l (List.mem_of_getElem? hjl)
      rw [hJ] at hjl
      have hlt := (List.getElem?_eq_some_iff.1 hjl).1
      rw [List.length_take] at hlt
      rw [List.getElem?_take_of_lt (by omega)] at hjl
      exact ⟨hjl, by omega, by omega⟩
    have hul := usedAt_le (L ++ [[]])
    rw [List.length_append, List.length_singleton] at hul
    have hsum := good.sum
    have hLl : L.length + 1 ≤ 8192 := by
      have := usedAt_ge (ls := L ++ [[]]) (L.length + 1) (by simp)
      omega
    have hlen0 := good.len
    refine Runs.mono (lines1_runs hc hLA hLf (Inv := RInv h L va vc vd sv rest LS) (Done := fun g => J = L.length + 1 ∧ RDone h (fsOf va vc vd rest) ss (usedAt (L ++ [[]]) (L.length + 1)) g) (L := h.nx + 7) hcell (rdB_kept hs0 hk0) (by omega) (fun j g hi => hasG_kept hG hi.2.1 hG4) hinv0 ?_) ?_
    · rintro j l g hjl ⟨b0, hk, b7, a0, a1, a2, a4, a5, a7, a, k, ex, a3, o, hfr⟩
      obtain ⟨hjl, hll, hjJ⟩ := hlines j l hjl
      have qa := congrArg LoopSt.assign hLS
      have qb := congrArg LoopSt.body hLS
      have qp := congrArg LoopSt.params hLS
      simp only at qa qb qp
      refine runs_yl a7 (by rw [← qp]; rfl) ?_
      rw [← qa, ← qb, ← qp]
      have hu := hul j
      have hw1 : Go.IntKind.wrap .i64 ((l.length : Int) + 2) = (l.length : Int) + 2 := wrap_i64 (by omega) (by omega)
      have hw2 : Go.IntKind.wrap .i64 ((usedAt (L ++ [[]]) j : Int) + ((l.length : Int) + 2)) = (usedAt (L ++ [[]]) j : Int) + ((l.length : Int) + 2) := wrap_i64 (by omega) (by omega)
      have hus := usedAt_succ hjl
      have hgg := hasG_kept hG hk hG4
      have hset : ∀ (g : H) (i : Nat) (x : Blk), h.nx ≤ i → hasG G g = true → hasG G (g.set i x) = true := fun g i x hi hg => by
        obtain ⟨m, hm⟩ := hasG_some hg
        exact hasG_of (m := m) (by rw [H.get_set, if_neg (by omega)]; exact hm)
      simp only [↓STEP, SB, looked, behind, lookOk, AAct.kind, AOp.kind, wpRes, evRes, resV, AOp.ev, bin, binI, binS, shiftI, eqV, un, bound, boundO, fill, fillRows, aggOf, keyEq, findKey, putKey, V.cells, V.flat, byteOf, bytesOf, rdOf, H.wr, H.kOf, splice, isYl, ↓reduceIte, Nat.reduceEqDiff, Nat.reduceLeDiff, Nat.reduceLT, Nat.reduceAdd, Nat.reduceSub, Nat.reduceMul, Int.reduceLT, Int.reduceLE, Int.reduceEq, Int.reduceAdd, Int.reduceSub, Int.reduceMul, Int.reduceNeg, Int.reduceToNat, reduceCtorEq, stParams, Tm.v_st, a0, a1, a2, a4, a5, a7, r2, r3, r4, r5, qs.symm, hw1, hw2, f 5 7 (by decide), f 7 5 (by decide)]
      refine ⟨LS, rfl, qs.symm, ?_⟩
      generalize hX : H.set (H.set g _ _) _ _ = X
      have hnX : X.nx = g.nx := by rw [← hX]; rfl
      have hkX : Kept h X := by rw [← hX]; exact (hk.set (by omega)).set (by omega)
      have hXo : ∀ i, i ≠ h.nx + 5 → i ≠ h.nx + 7 → X.get i = g.get i := fun i h5 h7 => by rw [← hX, H.get_set, if_neg h5, H.get_set, if_neg h7]
      have x5 : X.get (h.nx + 5) = some (.rows 1 [[.i .i64 (usedAt (L ++ [[]]) (j + 1) : Nat)]] false) := by
        rw [← hX, H.get_set, if_pos rfl, hus]
        simp
      have x7 : X.get (h.nx + 7) = some (.loop { LS with st := .busy }) := by rw [← hX, H.get_set, if_neg (by omega), H.get_set, if_pos rfl]
      have x0 := (hXo h.nx (by omega) (by omega)).trans a0
      have x1 := (hXo (h.nx + 1) (by omega) (by omega)).trans a1
      have x2 := (hXo (h.nx + 2) (by omega) (by omega)).trans a2
      have x3 := (hXo (h.nx + 3) (by omega) (by omega)).trans a3
      have x4 := (hXo (h.nx + 4) (by omega) (by omega)).trans a4
      have hgX := hasG_kept hG hkX hG4
      have oX : OutR h X 3 a k ex ((rest.take (j - 5)).map Fd.row) := by
        rw [← hX]
        exact (o.setO (by omega) fun hb => by have := hfr _ hb; omega).setO (by omega) fun hb => by have := hfr _ hb; omega
      clear hX
      by_cases c0 : j = 0
      · subst c0
        have hj0 : (L ++ [[]])[0]? = L[0]? := List.getElem?_append_left (by have := good.len; omega)
        rw [hj0] at hjl
        obtain ⟨z1, z2, z3⟩ := good.first l hjl
        have hlen := good.len
        simp only [if_true, reqRow] at x3
        have y1 := gFirst_eq (l := l) (h := X) (by omega) hgX
        rw [z1, z2, z3] at y1
        simp only [↓STEP, SB, looked, behind, lookOk, AAct.kind, AOp.kind, wpRes, evRes, resV, AOp.ev, bin, binI, binS, shiftI, eqV, un, bound, boundO, fill, fillRows, aggOf, keyEq, findKey, putKey, V.cells, V.flat, byteOf, bytesOf, rdOf, H.wr, H.kOf, splice, isYl, ↓reduceIte, Nat.reduceEqDiff, Nat.reduceLeDiff, Nat.reduceLT, Nat.reduceAdd, Nat.reduceSub, Nat.reduceMul, Int.reduceLT, Int.reduceLE, Int.reduceEq, Int.reduceAdd, Int.reduceSub, Int.reduceMul, Int.reduceNeg, Int.reduceToNat, reduceCtorEq, stParams, Tm.v_st, x3, x4, x7, r2, r3, r4, r5, hnX, f 3 4 (by decide), f 3 5 (by decide), f 3 7 (by decide), f 4 3 (by decide), f 4 5 (by decide), f 4 7 (by decide), f 5 7 (by decide), f 5 3 (by decide), f 5 4 (by decide), f 7 3 (by decide), xfi, y1, Int.natCast_zero]
        refine ⟨_, rfl, by omega, ((hkX.set (by omega)).set (by omega)).set (by omega), by show h.nx + 7 < X.nx; omega, ?_, ?_, ?_, ?_, ?_, ?_, a, k, ex, ?_, ?_, hfr⟩
        · simp only [↓STEP, SB, looked, behind, lookOk, AAct.kind, AOp.kind, wpRes, evRes, resV, AOp.ev, bin, binI, binS, shiftI, eqV, un, bound, boundO, fill, fillRows, aggOf, keyEq, findKey, putKey, V.cells, V.flat, byteOf, bytesOf, rdOf, H.wr, H.kOf, splice, isYl, ↓reduceIte, Nat.reduceEqDiff, Nat.reduceLeDiff, Nat.reduceLT, Nat.reduceAdd, Nat.reduceSub, Nat.reduceMul, Int.reduceLT, Int.reduceLE, Int.reduceEq, Int.reduceAdd, Int.reduceSub, Int.reduceMul, Int.reduceNeg, Int.reduceToNat, reduceCtorEq, f01 3 (by decide), f01 7 (by decide), x0]
        · simp only [↓STEP, SB, looked, behind, lookOk, AAct.kind, AOp.kind, wpRes, evRes, resV, AOp.ev, bin, binI, binS, shiftI, eqV, un, bound, boundO, fill, fillRows, aggOf, keyEq, findKey, putKey, V.cells, V.flat, byteOf, bytesOf, rdOf, H.wr, H.kOf, splice, isYl, ↓reduceIte, Nat.reduceEqDiff, Nat.reduceLeDiff, Nat.reduceLT, Nat.reduceAdd, Nat.reduceSub, Nat.reduceMul, Int.reduceLT, Int.reduceLE, Int.reduceEq, Int.reduceAdd, Int.reduceSub, Int.reduceMul, Int.reduceNeg, Int.reduceToNat, reduceCtorEq, f 1 3 (by decide), f 1 7 (by decide), x1]
        · simp only [↓STEP, SB, looked, behind, lookOk, AAct.kind, AOp.kind, wpRes, evRes, resV, AOp.ev, bin, binI, binS, shiftI, eqV, un, bound, boundO, fill, fillRows, aggOf, keyEq, findKey, putKey, V.cells, V.flat, byteOf, bytesOf, rdOf, H.wr, H.kOf, splice, isYl, ↓reduceIte, Nat.reduceEqDiff, Nat.reduceLeDiff, Nat.reduceLT, Nat.reduceAdd, Nat.reduceSub, Nat.reduceMul, Int.reduceLT, Int.reduceLE, Int.reduceEq, Int.reduceAdd, Int.reduceSub, Int.reduceMul, Int.reduceNeg, Int.reduceToNat, reduceCtorEq, f 2 3 (by decide), f 2 7 (by decide), x2]
        · simp only [↓STEP, SB, looked, behind, lookOk, AAct.kind, AOp.kind, wpRes, evRes, resV, AOp.ev, bin, binI, binS, shiftI, eqV, un, bound, boundO, fill, fillRows, aggOf, keyEq, findKey, putKey, V.cells, V.flat, byteOf, bytesOf, rdOf, H.wr, H.kOf, splice, isYl, ↓reduceIte, Nat.reduceEqDiff, Nat.reduceLeDiff, Nat.reduceLT, Nat.reduceAdd, Nat.reduceSub, Nat.reduceMul, Int.reduceLT, Int.reduceLE, Int.reduceEq, Int.reduceAdd, Int.reduceSub, Int.reduceMul, Int.reduceNeg, Int.reduceToNat, reduceCtorEq, f 4 3 (by decide), f 4 7 (by decide), x4]
        · simp only [↓STEP, SB, looked, behind, lookOk, AAct.kind, AOp.kind, wpRes, evRes, resV, AOp.ev, bin, binI, binS, shiftI, eqV, un, bound, boundO, fill, fillRows, aggOf, keyEq, findKey, putKey, V.cells, V.flat, byteOf, bytesOf, rdOf, H.wr, H.kOf, splice, isYl, ↓reduceIte, Nat.reduceEqDiff, Nat.reduceLeDiff, Nat.reduceLT, Nat.reduceAdd, Nat.reduceSub, Nat.reduceMul, Int.reduceLT, Int.reduceLE, Int.reduceEq, Int.reduceAdd, Int.reduceSub, Int.reduceMul, Int.reduceNeg, Int.reduceToNat, reduceCtorEq, f 5 3 (by decide), f 5 7 (by decide), x5]
        · simp only [↓STEP, SB, looked, behind, lookOk, AAct.kind, AOp.kind, wpRes, evRes, resV, AOp.ev, bin, binI, binS, shiftI, eqV, un, bound, boundO, fill, fillRows, aggOf, keyEq, findKey, putKey, V.cells, V.flat, byteOf, bytesOf, rdOf, H.wr, H.kOf, splice, isYl, ↓reduceIte, Nat.reduceEqDiff, Nat.reduceLeDiff, Nat.reduceLT, Nat.reduceAdd, Nat.reduceSub, Nat.reduceMul, Int.reduceLT, Int.reduceLE, Int.reduceEq, Int.reduceAdd, Int.reduceSub, Int.reduceMul, Int.reduceNeg, Int.reduceToNat, reduceCtorEq, qLS]
        · simp only [↓STEP, SB, looked, behind, lookOk, AAct.kind, AOp.kind, wpRes, evRes, resV, AOp.ev, bin, binI, binS, shiftI, eqV, un, bound, boundO, fill, fillRows, aggOf, keyEq, findKey, putKey, V.cells, V.flat, byteOf, bytesOf, rdOf, H.wr, H.kOf, splice, isYl, ↓reduceIte, Nat.reduceEqDiff, Nat.reduceLeDiff, Nat.reduceLT, Nat.reduceAdd, Nat.reduceSub, Nat.reduceMul, Int.reduceLT, Int.reduceLE, Int.reduceEq, Int.reduceAdd, Int.reduceSub, Int.reduceMul, Int.reduceNeg, Int.reduceToNat, reduceCtorEq, f 3 7 (by decide)]
          rfl
        · exact ((oX.setO (by omega) fun hb => by have := hfr _ hb; omega).setO (by omega) fun hb => by have := hfr _ hb; omega).setO (by omega) fun hb => by have := hfr _ hb; omega
      · have c0' : ¬ (j : Int) = 0 := by omega
        simp only [if_neg c0, reqRow] at x3
        have n4 : h.nx + 4 ≠ g.nx := by omega
        have n3 : h.nx + 3 ≠ g.nx := by omega
        by_cases cl : j = L.length
        · have hl0 : l = [] := by
            subst cl
            rw [List.getElem?_append_right (Nat.le_refl _), Nat.sub_self] at hjl
            cases hjl; rfl
          have hl0' := eq_true hl0
          have hlen := good.len
          have hr0 : rest.take (j - 5) = rest := List.take_of_length_le (by omega)
          have hm0 : (linM vc sv).take (j - 1) = linM vc sv := List.take_of_length_le (by show 4 ≤ j - 1; omega)
          rw [hr0] at oX
          rw [hm0] at x2
          have hkl : k = rest.length := by have := oX.len; rw [List.length_map] at this; exact this
          have hal : ∀ x, blkOf a = some x → x < X.nx := fun x hx => by
            rcases oX.is with ⟨rfl, _⟩ | ⟨b, rfl, _, _, h4, _⟩
            · cases hx
            · cases hx; exact h4
          simp only [↓STEP, SB, looked, behind, lookOk, AAct.kind, AOp.kind, wpRes, evRes, resV, AOp.ev, bin, binI, binS, shiftI, eqV, un, bound, boundO, fill, fillRows, aggOf, keyEq, findKey, putKey, V.cells, V.flat, byteOf, bytesOf, rdOf, H.wr, H.kOf, splice, isYl, ↓reduceIte, Nat.reduceEqDiff, Nat.reduceLeDiff, Nat.reduceLT, Nat.reduceAdd, Nat.reduceSub, Nat.reduceMul, Int.reduceLT, Int.reduceLE, Int.reduceEq, Int.reduceAdd, Int.reduceSub, Int.reduceMul, Int.reduceNeg, Int.reduceToNat, reduceCtorEq, stParams, Tm.v_st, x3, x4, x5, x7, r2, r3, r4, r5, hnX, f 3 4 (by decide), f 3 5 (by decide), f 3 7 (by decide), f 4 3 (by decide), f 4 5 (by decide), f 4 7 (by decide), f 5 7 (by decide), f 5 3 (by decide), f 5 4 (by decide), f 7 3 (by decide), c0', hl0']
          have hxu : X.get (h.nx + 3) = some (reqRow va vd a k ex (h.nx + 2)) := x3
          have hsvl : sv.length ≤ 100000 := by have := good.svl; omega
          have hhl : vc.length ≤ 1000000 := by have := good.vcl; omega
          have hsm : ss.length ≤ 1000000 := by have := decP_len hsv; rw [setB_len] at this; have := good.svl; omega
          refine Runs.mono (c := .fn kas) («as» := [.p (some (h.nx + 3, 0, 0)), .i .i64 (usedAt (L ++ [[]]) (j + 1) : Nat)] ++ []) (asked_runs (kpd := kpd) (kr := kr) haA haf hd hall hq hfA hff hpl hbA hbf hpd hs hn hxu x2 (by omega) (by omega) oX.rseg hal hkl (by omega) hsv hsvl hok hsm hhv hhl hg (by rw [cl]; exact hsum) hreq) ?_
          rintro v g3 ⟨hk3, a', n', c', ex', q, m, c2, ex2, rfl, w1, w2⟩
          have v0 := (hk3.2 h.nx (by omega)).trans x0
          have v1 := (hk3.2 (h.nx + 1) (by omega)).trans x1
          have v7 := (hk3.2 (h.nx + 7) (by omega)).trans x7
          simp only [↓STEP, SB, looked, behind, lookOk, AAct.kind, AOp.kind, wpRes, evRes, resV, AOp.ev, bin, binI, binS, shiftI, eqV, un, bound, boundO, fill, fillRows, aggOf, keyEq, findKey, putKey, V.cells, V.flat, byteOf, bytesOf, rdOf, H.wr, H.kOf, splice, isYl, ↓reduceIte, Nat.reduceEqDiff, Nat.reduceLeDiff, Nat.reduceLT, Nat.reduceAdd, Nat.reduceSub, Nat.reduceMul, Int.reduceLT, Int.reduceLE, Int.reduceEq, Int.reduceAdd, Int.reduceSub, Int.reduceMul, Int.reduceNeg, Int.reduceToNat, reduceCtorEq, stParams, Tm.v_st, r2, r3, v0, v1, v7, f01 1 (by decide), f01 7 (by decide), f 1 7 (by decide), f 7 1 (by decide)]
          have m0 : ∀ all ro, (g3.set h.nx (.rows 3 [[V.sl a' n' c' ex', V.sl q m c2 ex2, V.i Go.IntKind.i64 (usedAt (L ++ [[]]) (j + 1) : Nat)]] false)).get (h.nx + 1) ≠ some (.rows 3 all ro) := fun all ro hx => by
            rw [H.get_set, if_neg (by omega), v1] at hx; cases hx
          have m0' : ∀ all ro, (g3.set h.nx (.rows 3 [[V.sl a' n' c' ex', V.sl q m c2 ex2, V.i Go.IntKind.i64 (usedAt (L ++ [[]]) (j + 1) : Nat)]] false)).get (h.nx + 1) ≠ some (.rows 2 all ro) := fun all ro hx => by
            rw [H.get_set, if_neg (by omega), v1] at hx; cases hx
          have m1 : ∀ all ro, ((g3.set h.nx (.rows 3 [[V.sl a' n' c' ex', V.sl q m c2 ex2, V.i Go.IntKind.i64 (usedAt (L ++ [[]]) (j + 1) : Nat)]] false)).set (h.nx + 1) (.rows 1 [[V.i Go.IntKind.i64 0]] false)).get (h.nx + 7) ≠ some (.rows 3 all ro) := fun all ro hx => by
            rw [H.get_set, if_neg (by omega), H.get_set, if_neg (by omega), v7] at hx; cases hx
          have m1' : ∀ all ro, ((g3.set h.nx (.rows 3 [[V.sl a' n' c' ex', V.sl q m c2 ex2, V.i Go.IntKind.i64 (usedAt (L ++ [[]]) (j + 1) : Nat)]] false)).set (h.nx + 1) (.rows 1 [[V.i Go.IntKind.i64 0]] false)).get (h.nx + 7) ≠ some (.rows 2 all ro) := fun all ro hx => by
            rw [H.get_set, if_neg (by omega), H.get_set, if_neg (by omega), v7] at hx; cases hx
          have w1a := rowsIn_fs (i := h.nx) (X := .rows 3 [[V.sl a' n' c' ex', V.sl q m c2 ex2, V.i Go.IntKind.i64 (usedAt (L ++ [[]]) (j + 1) : Nat)]] false) (r1 := []) w1 (.inl ⟨_, _, _, _, _, v0⟩)
          have w1b := rowsIn_fs (X := .rows 1 [[V.i Go.IntKind.i64 0]] false) (v := .un) (r1 := []) w1a (.inr m0)
          have w2a := rowsIn_st (i := h.nx) (X := .rows 3 [[V.sl a' n' c' ex', V.sl q m c2 ex2, V.i Go.IntKind.i64 (usedAt (L ++ [[]]) (j + 1) : Nat)]] false) w2 fun all ro hx => by rw [v0] at hx; cases hx
          have w2b := rowsIn_st (X := .rows 1 [[V.i Go.IntKind.i64 0]] false) w2a m0'
          have hnx3 := hk3.1
          refine ⟨_, rfl, by omega, _, ((((hkX.trans hk3).set (Nat.le_refl _)).set (by omega)).set (by omega)), by show h.nx + 7 < g3.nx; omega, by rw [H.get_set, if_pos rfl], rfl, rfl, by rw [H.get_set, if_neg (by omega), H.get_set, if_pos rfl], a', n', c', ex', q, m, c2, ex2, ?_, rowsIn_fs (v := .un) (r1 := []) w1b (.inr m1), rowsIn_st w2b m1'⟩
          rw [H.get_set, if_neg (by omega), H.get_set, if_neg (by omega), H.get_set, if_pos rfl, cl]
        · have hjL : (L ++ [[]])[j]? = L[j]? := List.getElem?_append_left (by omega)
          rw [hjL] at hjl
          have hne : ¬ l = [] := good.ne j l hjl
          have y1 := gLine_eq (l := l) (h := X) (by omega) hgX (by omega)
          by_cases c5 : j ≤ 4
          · obtain ⟨i, rfl⟩ : ∃ i, j = i + 1 := ⟨j - 1, by omega⟩
            have hM4 : (linM vc sv).length = 4 := rfl
            have hq1 : (linM vc sv)[i]? = some (linM vc sv)[i] := List.getElem?_eq_getElem (by omega)
            obtain ⟨z1, z2, z3⟩ := good.key i l _ hjl hq1
            have htk : (linM vc sv).take (i + 1 + 1 - 1) = (linM vc sv).take (i + 1 - 1) ++ [(linM vc sv)[i]] := by
              show (linM vc sv).take (i + 1) = (linM vc sv).take i ++ [(linM vc sv)[i]]
              rw [List.take_add_one, hq1]; rfl
            have hkey : (linM vc sv)[i].1 = kHost ∨ (linM vc sv)[i].1 = kConn ∨ (linM vc sv)[i].1 = kUpg ∨ (linM vc sv)[i].1 = kSet := by
              match i, c5 with
              | 0, _ => exact .inl rfl
              | 1, _ => exact .inr (.inl rfl)
              | 2, _ => exact .inr (.inr (.inl rfl))
              | 3, _ => exact .inr (.inr (.inr rfl))
            have hlook : look ((linM vc sv).take (i + 1 - 1)) (linM vc sv)[i].1 = none := by
              match i, c5 with
              | 0, _ => rfl
              | 1, _ => rfl
              | 2, _ => rfl
              | 3, _ => rfl
            generalize (linM vc sv)[i] = q at *
            obtain ⟨qn, qv⟩ := q
            rw [z1, z2, z3] at y1
            simp only [↓STEP, SB, looked, behind, lookOk, AAct.kind, AOp.kind, wpRes, evRes, resV, AOp.ev, bin, binI, binS, shiftI, eqV, un, bound, boundO, fill, fillRows, aggOf, keyEq, findKey, putKey, V.cells, V.flat, byteOf, bytesOf, rdOf, H.wr, H.kOf, splice, isYl, ↓reduceIte, Nat.reduceEqDiff, Nat.reduceLeDiff, Nat.reduceLT, Nat.reduceAdd, Nat.reduceSub, Nat.reduceMul, Int.reduceLT, Int.reduceLE, Int.reduceEq, Int.reduceAdd, Int.reduceSub, Int.reduceMul, Int.reduceNeg, Int.reduceToNat, reduceCtorEq, stParams, Tm.v_st, x3, x4, x5, x7, r2, r3, r4, r5, hnX, f 3 4 (by decide), f 3 5 (by decide), f 3 7 (by decide), f 4 3 (by decide), f 4 5 (by decide), f 4 7 (by decide), f 5 7 (by decide), f 5 3 (by decide), f 5 4 (by decide), f 7 3 (by decide), c0', hne, xli, y1, n3, n4]
            generalize hY : H.set (H.push X _) _ _ = Y
            have hnY : Y.nx = g.nx + 1 := by rw [← hY]; show X.nx + 1 = _; omega
            have hkY : Kept X Y := by rw [← hY, ← hnX]; exact (Kept.push Kept.refl).set (Nat.le_refl _)
            clear hY
            have t3 : Y.get (h.nx + 3) = some (reqRow va vd a k ex (h.nx + 2)) := (hkY.2 _ (by omega)).trans x3
            have t2 := (hkY.2 _ (by omega)).trans x2
            refine Runs.mono (c := .fn kta) («as» := [.p (some (h.nx + 3, 0, 0)), .agg [.s qn, .s qv, .b false]] ++ []) (takes_key htA htf hkey t3 t2 hlook (by omega) (by omega) (by omega)) ?_
            rintro v g' ⟨hkb, hmap⟩
            have hnx' := hkb.1
            have hg' : ∀ i, i < g.nx → i ≠ h.nx + 2 → g'.get i = X.get i := fun i hi hne => (hkb.2 i (by omega) hne).trans (hkY.2 i (by omega))
            have hkg' : Kept h g' := ⟨by omega, fun i hi => (hg' i (by omega) (by omega)).trans (hkX.2 i hi)⟩
            have o' : OutR h g' 3 a k ex ((rest.take (i + 1 - 5)).map Fd.row) := oX.moved hkg' fun b hb hlt => ⟨by omega, hg' b (by omega) (by have := hfr _ hb; omega)⟩
            refine ⟨_, (hg' _ (by omega) (by omega)).trans x7, by omega, hkg'.set (by omega), by show h.nx + 7 < g'.nx; omega, ?_, ?_, ?_, ?_, ?_, ?_, a, k, ex, ?_, ?_, hfr⟩
            · rw [H.get_set, if_neg (by omega), hg' _ (by omega) (by omega)]; exact x0
            · rw [H.get_set, if_neg (by omega), hg' _ (by omega) (by omega)]; exact x1
            · rw [H.get_set, if_neg (by omega), hmap, htk]
            · rw [H.get_set, if_neg (by omega), hg' _ (by omega) (by omega)]; exact x4
            · rw [H.get_set, if_neg (by omega), hg' _ (by omega) (by omega)]; exact x5
            · rw [H.get_set, if_pos rfl]; simp only [qLS]
            · rw [H.get_set, if_neg (by omega), hg' _ (by omega) (by omega), if_neg (by omega), if_neg (by omega)]; exact x3
            · have : rest.take (i + 1 + 1 - 5) = rest.take (i + 1 - 5) := by rw [show i + 1 + 1 - 5 = 0 by omega, show i + 1 - 5 = 0 by omega]
              rw [this]
              exact o'.setO (by omega) fun hb => by have := hfr _ hb; omega
          · obtain ⟨i, rfl⟩ : ∃ i, j = i + 5 := ⟨j - 5, by omega⟩
            have hlen := good.len
            have hq1 : rest[i]? = some rest[i] := List.getElem?_eq_getElem (by omega)
            obtain ⟨z1, z2, z3, z4, z5⟩ := good.fld i l _ hjl hq1
            rw [z1, z2, z3] at y1
            simp only [↓STEP, SB, looked, behind, lookOk, AAct.kind, AOp.kind, wpRes, evRes, resV, AOp.ev, bin, binI, binS, shiftI, eqV, un, bound, boundO, fill, fillRows, aggOf, keyEq, findKey, putKey, V.cells, V.flat, byteOf, bytesOf, rdOf, H.wr, H.kOf, splice, isYl, ↓reduceIte, Nat.reduceEqDiff, Nat.reduceLeDiff, Nat.reduceLT, Nat.reduceAdd, Nat.reduceSub, Nat.reduceMul, Int.reduceLT, Int.reduceLE, Int.reduceEq, Int.reduceAdd, Int.reduceSub, Int.reduceMul, Int.reduceNeg, Int.reduceToNat, reduceCtorEq, stParams, Tm.v_st, x3, x4, x5, x7, r2, r3, r4, r5, hnX, f 3 4 (by decide), f 3 5 (by decide), f 3 7 (by decide), f 4 3 (by decide), f 4 5 (by decide), f 4 7 (by decide), f 5 7 (by decide), f 5 3 (by decide), f 5 4 (by decide), f 7 3 (by decide), c0', hne, xli, y1, n3, n4]
            generalize hY : H.set (H.push X _) _ _ = Y
            have hnY : Y.nx = g.nx + 1 := by rw [← hY]; show X.nx + 1 = _; omega
            have hkY : Kept X Y := by rw [← hY, ← hnX]; exact (Kept.push Kept.refl).set (Nat.le_refl _)
            clear hY
            have t3 : Y.get (h.nx + 3) = some (reqRow va vd a k ex (h.nx + 2)) := (hkY.2 _ (by omega)).trans x3
            have hkl : k ≤ 100000 := by have := oX.len; rw [List.length_map, List.length_take] at this; omega
            refine Runs.mono (c := .fn kta) («as» := [.p (some (h.nx + 3, 0, 0)), .agg [.s rest[i].n, .s rest[i].v, .b false]] ++ []) (takes_more htA htf z5 (oX.moved (hkX.trans hkY) fun b hb hlt => ⟨by omega, hkY.2 b hlt⟩) hkl t3 (by omega) (by omega) fun hb => by have := hfr _ hb; omega) ?_
            rintro v g' ⟨b', o', hreq', hoth, hnx', hb'⟩
            have hg' : ∀ i, i < g.nx → i ≠ h.nx + 3 → blkOf a ≠ some i → g'.get i = X.get i := fun i hi hne hna => (hoth i (by omega) hne hna).trans (hkY.2 i (by omega))
            have nfr : ∀ i, i ≤ h.nx + 7 → blkOf a ≠ some i := fun i hi hb => by have := hfr _ hb; omega
            refine ⟨_, (hg' _ (by omega) (by omega) (nfr _ (by omega))).trans x7, by omega, o'.kept.set (by omega), by show h.nx + 7 < g'.nx; omega, ?_, ?_, ?_, ?_, ?_, ?_, some (b', 0), k + 1, false, ?_, ?_, (fun b hb => by have := Option.some.inj hb; simp only at this; omega)⟩
            · rw [H.get_set, if_neg (by omega), hg' _ (by omega) (by omega) (nfr _ (by omega))]; exact x0
            · rw [H.get_set, if_neg (by omega), hg' _ (by omega) (by omega) (nfr _ (by omega))]; exact x1
            · rw [H.get_set, if_neg (by omega), hg' _ (by omega) (by omega) (nfr _ (by omega)), x2]
              have hM4 : (linM vc sv).length = 4 := rfl
              rw [List.take_of_length_le (by omega), List.take_of_length_le (by omega)]
            · rw [H.get_set, if_neg (by omega), hg' _ (by omega) (by omega) (nfr _ (by omega))]; exact x4
            · rw [H.get_set, if_neg (by omega), hg' _ (by omega) (by omega) (nfr _ (by omega))]; exact x5
            · rw [H.get_set, if_pos rfl]; simp only [qLS]
            · rw [H.get_set, if_neg (by omega), if_neg (by omega), if_neg (by omega)]; exact hreq'
            · have : (rest.take (i + 5 + 1 - 5)).map Fd.row = (rest.take (i + 5 - 5)).map Fd.row ++ [[.s rest[i].n, .s rest[i].v, .b false]] := by
                rw [show i + 5 + 1 - 5 = i + 1 by omega, show i + 5 - 5 = i by omega, List.take_add_one, hq1, List.map_append]
                show _ ++ [[V.s rest[i].n, .s rest[i].v, .b rest[i].z]] = _
                rw [z4]
              rw [this]
              exact o'.setO (by omega) fun hb => by have := Option.some.inj hb; simp only at this; omega
    · have hlJ : (linesR s).1.length = J := by rw [hJ, List.length_take, List.length_append, List.length_singleton]; omega
      rw [hlJ]
      rintro v g' (⟨b0, hk, b7, a0, a1, a2, a4, a5, a7, a, k, ex, a3, o, hfr⟩ | ⟨hJe, LD, hk, b7, d7, dst, dpd, d1, a, n', c', ex, q, m, c2, ex2, d0, w1, w2⟩)
      · refine ⟨LS, a7, by rw [← qs]; simp, ?_⟩
        have hnb : ¬ (16384 : Int) < (n : Int) := by have := hbig b0; omega
        simp only [↓STEP, SB, looked, behind, lookOk, AAct.kind, AOp.kind, wpRes, evRes, resV, AOp.ev, bin, binI, binS, shiftI, eqV, un, bound, boundO, fill, fillRows, aggOf, keyEq, findKey, putKey, V.cells, V.flat, byteOf, bytesOf, rdOf, H.wr, H.kOf, splice, isYl, ↓reduceIte, Nat.reduceEqDiff, Nat.reduceLeDiff, Nat.reduceLT, Nat.reduceAdd, Nat.reduceSub, Nat.reduceMul, Int.reduceLT, Int.reduceLE, Int.reduceEq, Int.reduceAdd, Int.reduceSub, Int.reduceMul, Int.reduceNeg, Int.reduceToNat, reduceCtorEq, qpd, a0, a1, f01 1 (by decide), f01 7 (by decide), f 1 7 (by decide), hnb]
        exact ⟨((hk.kill (by omega)).set (Nat.le_refl _)).set (by omega), fun hx => by omega, fun _ => trivial⟩
      · refine ⟨LD, d7, by rw [dst]; simp, ?_⟩
        simp only [↓STEP, SB, looked, behind, lookOk, AAct.kind, AOp.kind, wpRes, evRes, resV, AOp.ev, bin, binI, binS, shiftI, eqV, un, bound, boundO, fill, fillRows, aggOf, keyEq, findKey, putKey, V.cells, V.flat, byteOf, bytesOf, rdOf, H.wr, H.kOf, splice, isYl, ↓reduceIte, Nat.reduceEqDiff, Nat.reduceLeDiff, Nat.reduceLT, Nat.reduceAdd, Nat.reduceSub, Nat.reduceMul, Int.reduceLT, Int.reduceLE, Int.reduceEq, Int.reduceAdd, Int.reduceSub, Int.reduceMul, Int.reduceNeg, Int.reduceToNat, reduceCtorEq, dpd, d0, d1, f01 1 (by decide), f01 7 (by decide), f 1 7 (by decide)]
        exact ⟨hk.kill (by omega), fun _ => ⟨a, n', c', ex, q, m, c2, ex2, rfl, rowsIn_kill w1 d7, rowsIn_kill w2 d7⟩, fun hx => by omega⟩

end Am
