/- A SETTINGS frame, put together by the program. -/
import Derived.Test.YtibmhhdgcbaofaaDoorAskA3
import Derived.Test.YtibmhhdgcbaofaaDoorCodesAll
namespace Am
set_option linter.unusedVariables false
set_option linter.unusedSimpArgs false
set_option maxRecDepth 20000
set_option maxHeartbeats 8000000
variable {pr : Prog}

def gPadded (ys : List V) (h : H) : Option (V × H) :=
  match ys with
  | [.i .i64 n] => if n = 4 then some (.b false, h) else none
  | _ => none
theorem padded_ok : OkF pr c_frame_padded gPadded := by
  intro ys h v h' hg
  unfold gPadded at hg
  split at hg
  · rename_i n
    split at hg
    case isFalse => cases hg
    rename_i hn
    subst hn
    cases hg
    unfold wpF c_frame_padded
    refine ⟨by simp, ?_⟩
    simp only [↓STEP, SB, looked, behind, lookOk, AAct.kind, AOp.kind, wpRes, evRes, resV, AOp.ev, bin, binI, binS, shiftI, eqV, un, bound, boundO, fill, fillRows, aggOf, keyEq, findKey, putKey, V.cells, V.flat, byteOf, bytesOf, rdOf, H.wr, H.kOf, splice, isYl, ↓reduceIte, Nat.reduceEqDiff, Nat.reduceLeDiff, Nat.reduceLT, Nat.reduceAdd, Nat.reduceSub, Nat.reduceMul, Int.reduceLT, Int.reduceLE, Int.reduceEq, Int.reduceAdd, Int.reduceSub, Int.reduceMul, Int.reduceNeg, Int.reduceToNat, reduceCtorEq]
    exact Abs.refl
  · cases hg
def gLow (ys : List V) (h : H) : Option (V × H) :=
  match ys with
  | [.i .i64 n] => if n = 0 then some (.b true, h) else none
  | _ => none
theorem low_ok : OkF pr c_frame_low gLow := by
  intro ys h v h' hg
  unfold gLow at hg
  split at hg
  · rename_i n
    split at hg
    case isFalse => cases hg
    rename_i hn
    subst hn
    cases hg
    unfold wpF c_frame_low
    refine ⟨by simp, ?_⟩
    simp only [↓STEP, SB, looked, behind, lookOk, AAct.kind, AOp.kind, wpRes, evRes, resV, AOp.ev, bin, binI, binS, shiftI, eqV, un, bound, boundO, fill, fillRows, aggOf, keyEq, findKey, putKey, V.cells, V.flat, byteOf, bytesOf, rdOf, H.wr, H.kOf, splice, isYl, ↓reduceIte, Nat.reduceEqDiff, Nat.reduceLeDiff, Nat.reduceLT, Nat.reduceAdd, Nat.reduceSub, Nat.reduceMul, Int.reduceLT, Int.reduceLE, Int.reduceEq, Int.reduceAdd, Int.reduceSub, Int.reduceMul, Int.reduceNeg, Int.reduceToNat, reduceCtorEq, Int.le_refl]
    exact Abs.refl
  · cases hg
theorem appBytes_nil {g : H} {bytes n : Nat} {a : Option (Nat × Nat)} {ex : Bool} : appBytes g bytes a n n ex [] = some (.sl a n n ex, g) := by
  unfold appBytes H.bput
  simp
def frame0 : V := .agg [.i .i64 0, .i .i64 0, .i .i64 0, .sl none 0 0 true]
def MakePost (h : H) (ss : List St) (v : V) (g : H) : Prop :=
  Kept h g ∧ ((ss.all okSt = false ∧ v = .tup [frame0, .i .i64 1]) ∨ (ss.all okSt = true ∧ 16777215 < 6 * ss.length ∧ v = .tup [frame0, .i .i64 2]) ∨
    (ss.all okSt = true ∧ 6 * ss.length ≤ 16777215 ∧ ∃ a n ex, v = .tup [.agg [.i .i64 4, .i .i64 0, .i .i64 0, .sl a n n ex], .i .i64 0] ∧ rdB g a n = some (setB ss)))
theorem make_runs {kpd klow kpay km kp kl kw : Nat} (hA : pr.ext km = none) (hfn : pr.fn km = some (c_frame_Make kpd klow kpay)) (hpd : pr.ext kpd = some gPadded) (hlow : pr.ext klow = some gLow)
    (hpA : pr.ext kpay = none) (hpf : pr.fn kpay = some (c_frame_payload kp kl kw klow)) (hl : pr.ext kl = none) (hlf : pr.fn kl = some c_frame_lay) (hw : pr.ext kw = some gWord)
    {h : H} {p : Option (Nat × Nat)} {n c : Nat} {ex0 : Bool} {ss : List St} (hr : rowsIn h 2 p n (ss.map St.row)) (hn : n ≤ 10000000) :
    Runs pr (.fn km) [.i .i64 4, .i .i64 0, .i .i64 0, .agg (bodyS p n c ex0)] h (MakePost h ss) := by
  have xpd := @wpCall_ext pr kpd _ hpd
  have xlow := @wpCall_ext pr klow _ hlow
  have ypd : ∀ g, gPadded [.i .i64 4] g = some (.b false, g) := fun g => rfl
  have ylow : ∀ g, gLow [.i .i64 0] g = some (.b true, g) := fun g => rfl
  have hlen := hr.1
  rw [List.length_map] at hlen
  refine runs_of_wpF hA hfn ?_
  unfold wpF c_frame_Make
  refine ⟨by simp, ?_⟩
  simp only [↓STEP, SB, looked, behind, lookOk, AAct.kind, AOp.kind, wpRes, evRes, resV, AOp.ev, bin, binI, binS, shiftI, eqV, un, bound, boundO, fill, fillRows, aggOf, keyEq, findKey, putKey, V.cells, V.flat, byteOf, bytesOf, rdOf, H.wr, H.kOf, splice, isYl, ↓reduceIte, Nat.reduceEqDiff, Nat.reduceLeDiff, Nat.reduceLT, Nat.reduceAdd, Nat.reduceSub, Nat.reduceMul, Int.reduceLT, Int.reduceLE, Int.reduceEq, Int.reduceAdd, Int.reduceSub, Int.reduceMul, Int.reduceNeg, Int.reduceToNat, reduceCtorEq, bodyS, xpd, ypd, xlow, ylow]
  generalize hG : H.push (H.push h _) _ = G
  have hkG : Kept h G := by rw [← hG]; exact Kept.push (Kept.push Kept.refl)
  have hnG : G.nx = h.nx + 2 := by rw [← hG]; rfl
  have g7 : G.get h.nx = some (.rows 11 [bodyS p n c ex0] false) := by rw [← hG]; simp only [↓STEP, SB, looked, behind, lookOk, AAct.kind, AOp.kind, wpRes, evRes, resV, AOp.ev, bin, binI, binS, shiftI, eqV, un, bound, boundO, fill, fillRows, aggOf, keyEq, findKey, putKey, V.cells, V.flat, byteOf, bytesOf, rdOf, H.wr, H.kOf, splice, isYl, ↓reduceIte, Nat.reduceEqDiff, Nat.reduceLeDiff, Nat.reduceLT, Nat.reduceAdd, Nat.reduceSub, Nat.reduceMul, Int.reduceLT, Int.reduceLE, Int.reduceEq, Int.reduceAdd, Int.reduceSub, Int.reduceMul, Int.reduceNeg, Int.reduceToNat, reduceCtorEq]; rfl
  have g8 : G.get (h.nx + 1) = some (.rows 4 [[.i .i64 0, .i .i64 0, .i .i64 0, .sl none 0 0 true]] false) := by rw [← hG]; simp only [↓STEP, SB, looked, behind, lookOk, AAct.kind, AOp.kind, wpRes, evRes, resV, AOp.ev, bin, binI, binS, shiftI, eqV, un, bound, boundO, fill, fillRows, aggOf, keyEq, findKey, putKey, V.cells, V.flat, byteOf, bytesOf, rdOf, H.wr, H.kOf, splice, isYl, ↓reduceIte, Nat.reduceEqDiff, Nat.reduceLeDiff, Nat.reduceLT, Nat.reduceAdd, Nat.reduceSub, Nat.reduceMul, Int.reduceLT, Int.reduceLE, Int.reduceEq, Int.reduceAdd, Int.reduceSub, Int.reduceMul, Int.reduceNeg, Int.reduceToNat, reduceCtorEq]
  clear hG
  refine Runs.mono (c := .fn kpay) (as := [.sl none 0 0 true, .i .i64 4, .i .i64 0, .agg (bodyS p n c ex0)] ++ []) (payload_runs hpA hpf hl hlf hw (rowsIn_kept hr hkG) hn) ?_
  rintro v g (⟨hok, a, n', ex, rfl, o⟩ | ⟨hno, rfl, hk⟩)
  · have f7 : g.get h.nx = some (.rows 11 [bodyS p n c ex0] false) := (o.kept.2 _ (by omega)).trans g7
    have f8 : g.get (h.nx + 1) = some (.rows 4 [[.i .i64 0, .i .i64 0, .i .i64 0, .sl none 0 0 true]] false) := (o.kept.2 _ (by omega)).trans g8
    have hkk := hkG.trans o.kept
    have hnl := o.len
    rw [setB_len] at hnl
    unfold bodyS at f7
    have fz : ∀ X : Blk, Kept h (g.set (h.nx + 1) X) := fun X => hkk.set (by omega)
    by_cases hbig : (16777215 : Int) < n'
    · simp only [↓STEP, SB, looked, behind, lookOk, AAct.kind, AOp.kind, wpRes, evRes, resV, AOp.ev, bin, binI, binS, shiftI, eqV, un, bound, boundO, fill, fillRows, aggOf, keyEq, findKey, putKey, V.cells, V.flat, byteOf, bytesOf, rdOf, H.wr, H.kOf, splice, isYl, ↓reduceIte, Nat.reduceEqDiff, Nat.reduceLeDiff, Nat.reduceLT, Nat.reduceAdd, Nat.reduceSub, Nat.reduceMul, Int.reduceLT, Int.reduceLE, Int.reduceEq, Int.reduceAdd, Int.reduceSub, Int.reduceMul, Int.reduceNeg, Int.reduceToNat, reduceCtorEq, f7, f8, appBytes_nil, hbig]
      exact ⟨fz _, .inr (.inl ⟨hok, by omega, rfl⟩)⟩
    · have frd : ∀ X : Blk, rdB (g.set (h.nx + 1) X) a n' = some (setB ss) := fun X => by
        have k2 : Kept G g := o.kept
        rcases o.is with ⟨rfl, h2, rfl⟩ | ⟨b, rfl, rfl, h3, h4, h5, h6⟩
        · have he : setB ss = [] := List.eq_nil_of_length_eq_zero (by rw [setB_len]; omega)
          rw [h2, he]
          exact rdB_of bseg_zero fun b hb => by cases hb
        · refine rdB_of ?_ fun b' hb => by cases hb; exact h4
          have := o.bseg
          unfold H.bseg at this ⊢
          by_cases hz : n' = 0
          · rw [if_pos hz] at this ⊢; exact this
          · rw [if_neg hz] at this ⊢
            have hg2 : (g.set (h.nx + 1) X).get b = g.get b := by rw [H.get_set, if_neg (by omega)]
            simp only [hg2]
            exact this
      simp only [↓STEP, SB, looked, behind, lookOk, AAct.kind, AOp.kind, wpRes, evRes, resV, AOp.ev, bin, binI, binS, shiftI, eqV, un, bound, boundO, fill, fillRows, aggOf, keyEq, findKey, putKey, V.cells, V.flat, byteOf, bytesOf, rdOf, H.wr, H.kOf, splice, isYl, ↓reduceIte, Nat.reduceEqDiff, Nat.reduceLeDiff, Nat.reduceLT, Nat.reduceAdd, Nat.reduceSub, Nat.reduceMul, Int.reduceLT, Int.reduceLE, Int.reduceEq, Int.reduceAdd, Int.reduceSub, Int.reduceMul, Int.reduceNeg, Int.reduceToNat, reduceCtorEq, f7, f8, appBytes_nil, hbig]
      exact ⟨fz _, .inr (.inr ⟨hok, by omega, _, _, _, rfl, frd _⟩)⟩
  · have f7 : g.get h.nx = some (.rows 11 [bodyS p n c ex0] false) := (hk.2 _ (by omega)).trans g7
    have f8 : g.get (h.nx + 1) = some (.rows 4 [[.i .i64 0, .i .i64 0, .i .i64 0, .sl none 0 0 true]] false) := (hk.2 _ (by omega)).trans g8
    have hkk := hkG.trans hk
    have fz : ∀ X : Blk, Kept h (g.set (h.nx + 1) X) := fun X => hkk.set (by omega)
    simp only [↓STEP, SB, looked, behind, lookOk, AAct.kind, AOp.kind, wpRes, evRes, resV, AOp.ev, bin, binI, binS, shiftI, eqV, un, bound, boundO, fill, fillRows, aggOf, keyEq, findKey, putKey, V.cells, V.flat, byteOf, bytesOf, rdOf, H.wr, H.kOf, splice, isYl, ↓reduceIte, Nat.reduceEqDiff, Nat.reduceLeDiff, Nat.reduceLT, Nat.reduceAdd, Nat.reduceSub, Nat.reduceMul, Int.reduceLT, Int.reduceLE, Int.reduceEq, Int.reduceAdd, Int.reduceSub, Int.reduceMul, Int.reduceNeg, Int.reduceToNat, reduceCtorEq, f7, f8]
    exact ⟨fz _, .inl ⟨hno, rfl⟩⟩

end Am
