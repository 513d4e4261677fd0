/- The lines of a request: the first one, and another one. -/
import Derived.Test.YtibmhhdgcbaofaaDoorAskR1
namespace Am
set_option linter.unusedVariables false
set_option linter.unusedSimpArgs false
set_option maxRecDepth 20000
set_option maxHeartbeats 4000000
variable {pr : Prog}

theorem hasG_kept {G : Nat} {h g : H} (hh : hasG G h = true) (hk : Kept h g) (h4 : G < h.nx) : hasG G g = true := by
  obtain ⟨m, hm⟩ := hasG_some hh
  exact hasG_of (m := m) ((hk.2 G h4).trans hm)
theorem cutA_len (l sub : List UInt8) : (cutA l sub).1.length ≤ l.length ∧ (cutA l sub).2.1.length ≤ l.length := by
  unfold cutA
  split
  · exact ⟨by rw [List.length_take]; omega, by rw [List.length_drop]; omega⟩
  · exact ⟨Nat.le_refl _, Nat.zero_le _⟩
theorem dropC_len (c : Int) (l : List UInt8) : (dropC c l).length ≤ l.length := by
  unfold dropC; exact (List.dropWhile_sublist _).length_le

def http11 : List UInt8 := [72, 84, 84, 80, 47, 49, 46, 49]
def firM (l : List UInt8) : List UInt8 := (cutA l [32]).1
def firP (l : List UInt8) : List UInt8 := (cutA (cutA l [32]).2.1 [32]).1
def firB (l : List UInt8) : Bool := methodB (firM l) && pathB (firP l) && decide ((cutA (cutA l [32]).2.1 [32]).2.1 = http11)
def gFirst (G : Nat) (ys : List V) (h : H) : Option (V × H) :=
  match ys with
  | [.s l] => if l.length < 1000000 ∧ hasG G h = true then some (.tup [.s (firM l), .s (firP l), .b (firB l)], h) else none
  | _ => none
theorem gFirst_eq {G : Nat} {l : List UInt8} {h : H} (hl : l.length < 1000000) (hh : hasG G h = true) : gFirst G [.s l] h = some (.tup [.s (firM l), .s (firP l), .b (firB l)], h) := if_pos ⟨hl, hh⟩
theorem first_ok {G kc km kp : Nat} (hc : pr.ext kc = some (gCutA G)) (hm : pr.ext km = some (gTx methodB)) (hp : pr.ext kp = some (gTx pathB)) : OkF pr (c_upgrade_first kc km kp) (gFirst G) := by
  intro ys h v h' hg
  unfold gFirst at hg
  split at hg
  case h_2 => cases hg
  rename_i l
  split at hg
  case isFalse => cases hg
  rename_i hbig
  cases hg
  obtain ⟨hl, hh⟩ := hbig
  have xc := @wpCall_ext pr kc _ hc
  have xm := @wpCall_ext pr km _ hm
  have xp := @wpCall_ext pr kp _ hp
  have l1 := cutA_len l [32]
  have l2 := cutA_len (cutA l [32]).2.1 [32]
  have y1 := gCutA_eq (sub := [32]) hl hh
  have y2 := gCutA_eq (l := (cutA l [32]).2.1) (sub := [32]) (by omega) hh
  have y3 := gTx_eq (p := methodB) (l := (cutA l [32]).1) (h := h) (by omega)
  have y4 := gTx_eq (p := pathB) (l := (cutA (cutA l [32]).2.1 [32]).1) (h := h) (by omega)
  unfold wpF c_upgrade_first
  refine ⟨by simp, ?_⟩
  unfold firB firM firP
  generalize cutA (cutA l [32]).2.1 [32] = q at *
  generalize cutA l [32] = p at *
  obtain ⟨p1, p2, p3⟩ := p
  obtain ⟨q1, q2, q3⟩ := q
  simp only at *
  cases hm : methodB p1 with
  | false =>
    rw [hm] at y3
    simp only [↓STEP, SB, looked, behind, lookOk, AAct.kind, AOp.kind, wpRes, evRes, resV, AOp.ev, bin, binI, binS, shiftI, eqV, un, bound, boundO, fill, fillRows, aggOf, keyEq, findKey, putKey, V.cells, V.flat, byteOf, bytesOf, rdOf, H.wr, H.kOf, splice, isYl, ↓reduceIte, Nat.reduceEqDiff, Nat.reduceLeDiff, Nat.reduceLT, Nat.reduceAdd, Nat.reduceSub, Nat.reduceMul, Int.reduceLT, Int.reduceLE, Int.reduceEq, Int.reduceAdd, Int.reduceSub, Int.reduceMul, Int.reduceNeg, Int.reduceToNat, reduceCtorEq, xc, xm, xp, y1, y2, y3]
    exact Abs.refl
  | true =>
    rw [hm] at y3
    cases hp : pathB q1 with
    | false =>
      rw [hp] at y4
      simp only [↓STEP, SB, looked, behind, lookOk, AAct.kind, AOp.kind, wpRes, evRes, resV, AOp.ev, bin, binI, binS, shiftI, eqV, un, bound, boundO, fill, fillRows, aggOf, keyEq, findKey, putKey, V.cells, V.flat, byteOf, bytesOf, rdOf, H.wr, H.kOf, splice, isYl, ↓reduceIte, Nat.reduceEqDiff, Nat.reduceLeDiff, Nat.reduceLT, Nat.reduceAdd, Nat.reduceSub, Nat.reduceMul, Int.reduceLT, Int.reduceLE, Int.reduceEq, Int.reduceAdd, Int.reduceSub, Int.reduceMul, Int.reduceNeg, Int.reduceToNat, reduceCtorEq, xc, xm, xp, y1, y2, y3, y4]
      exact Abs.refl
    | true =>
      rw [hp] at y4
      simp only [↓STEP, SB, looked, behind, lookOk, AAct.kind, AOp.kind, wpRes, evRes, resV, AOp.ev, bin, binI, binS, shiftI, eqV, un, bound, boundO, fill, fillRows, aggOf, keyEq, findKey, putKey, V.cells, V.flat, byteOf, bytesOf, rdOf, H.wr, H.kOf, splice, isYl, ↓reduceIte, Nat.reduceEqDiff, Nat.reduceLeDiff, Nat.reduceLT, Nat.reduceAdd, Nat.reduceSub, Nat.reduceMul, Int.reduceLT, Int.reduceLE, Int.reduceEq, Int.reduceAdd, Int.reduceSub, Int.reduceMul, Int.reduceNeg, Int.reduceToNat, reduceCtorEq, xc, xm, xp, y1, y2, y3, y4]
      exact Abs.refl

def linN (l : List UInt8) : List UInt8 := lowS (cutA l [58]).1
def linV (l : List UInt8) : List UInt8 := dropC 32 (cutA l [58]).2.1
def linB (l : List UInt8) : Bool := (cutA l [58]).2.2 && nameB (linN l) && valueB (linV l) && allP chT (linV l)
def gLine (G : Nat) (ys : List V) (h : H) : Option (V × H) :=
  match ys with
  | [.s l] => if l.length < 1000000 ∧ hasG G h = true ∧ G < h.nx then some (.tup [.agg [.s (linN l), .s (linV l), .b false], .b (linB l)], h) else none
  | _ => none
theorem gLine_eq {G : Nat} {l : List UInt8} {h : H} (hl : l.length < 1000000) (hh : hasG G h = true) (h4 : G < h.nx) : gLine G [.s l] h = some (.tup [.agg [.s (linN l), .s (linV l), .b false], .b (linB l)], h) := if_pos ⟨hl, hh, h4⟩
theorem line_ok {G kc ks kt kn kv ka kx kg kr : Nat} (hc : pr.ext kc = some (gCutA G)) (hs : pr.ext ks = some gSmall) (ht : pr.ext kt = some gTrim) (hn : pr.ext kn = some gName) (hv : pr.ext kv = some gValue) (ha : pr.ext ka = some (gAllB kg kx kr)) (hne : kx ≠ kg) :
    OkF pr (c_upgrade_line kc ks kt kn kv ka kx) (gLine G) := by
  intro ys h v h' hg
  unfold gLine at hg
  split at hg
  case h_2 => cases hg
  rename_i l
  split at hg
  case isFalse => cases hg
  rename_i hbig
  cases hg
  obtain ⟨hl, hh, h4⟩ := hbig
  have xc := @wpCall_ext pr kc _ hc
  have xs := @wpCall_ext pr ks _ hs
  have xt := @wpCall_ext pr kt _ ht
  have xn := @wpCall_ext pr kn _ hn
  have xv := @wpCall_ext pr kv _ hv
  have xa := @wpCall_ext pr ka _ ha
  have l1 := cutA_len l [58]
  have l3 := dropC_len 32 (cutA l [58]).2.1
  have y1 := gCutA_eq (sub := [58]) (h := h.push (.rows 3 [[.s [], .s [], .b false]] false)) hl (hasG_kept hh (by (repeat (first | exact Kept.refl | apply Kept.push | refine Kept.kill ?_ (by omega) | refine Kept.set ?_ (by omega)))) h4)
  have y2 := fun g => gSmall_eq (l := (cutA l [58]).1) (h := g) (by omega)
  have y3 := fun g => gTrim_eq (l := (cutA l [58]).2.1) (h := g) (by omega)
  have y4 := gName_eq (linN l)
  have y5 := gValue_eq (linV l)
  have y6 : ∀ g, gAllB kg kx kr [.s (linV l), .f (.fn kx) []] g = some (.b (allP chT (linV l)), g) := fun g => by
    unfold gAllB linV; simp only; rw [if_pos (by omega), if_neg hne]; simp
  unfold wpF c_upgrade_line
  refine ⟨by simp, ?_⟩
  unfold linB
  unfold linN linV at *
  generalize hp : cutA l [58] = p at *
  obtain ⟨p1, p2, p3⟩ := p
  simp only at *
  generalize dropC 32 p2 = dv at *
  generalize lowS p1 = dn at *
  cases p3 with
  | false =>
    simp only [↓STEP, SB, looked, behind, lookOk, AAct.kind, AOp.kind, wpRes, evRes, resV, AOp.ev, bin, binI, binS, shiftI, eqV, un, bound, boundO, fill, fillRows, aggOf, keyEq, findKey, putKey, V.cells, V.flat, byteOf, bytesOf, rdOf, H.wr, H.kOf, splice, isYl, ↓reduceIte, Nat.reduceEqDiff, Nat.reduceLeDiff, Nat.reduceLT, Nat.reduceAdd, Nat.reduceSub, Nat.reduceMul, Int.reduceLT, Int.reduceLE, Int.reduceEq, Int.reduceAdd, Int.reduceSub, Int.reduceMul, Int.reduceNeg, Int.reduceToNat, reduceCtorEq, xc, xs, xt, xn, xv, xa, y1, y2, y3, y4, y5, y6]
    exact Abs.out rfl rfl (by (repeat (first | exact Kept.refl | apply Kept.push | refine Kept.kill ?_ (by omega) | refine Kept.set ?_ (by omega))))
  | true =>
    cases hn : nameB dn with
    | false =>
      rw [hn] at y4
      simp only [↓STEP, SB, looked, behind, lookOk, AAct.kind, AOp.kind, wpRes, evRes, resV, AOp.ev, bin, binI, binS, shiftI, eqV, un, bound, boundO, fill, fillRows, aggOf, keyEq, findKey, putKey, V.cells, V.flat, byteOf, bytesOf, rdOf, H.wr, H.kOf, splice, isYl, ↓reduceIte, Nat.reduceEqDiff, Nat.reduceLeDiff, Nat.reduceLT, Nat.reduceAdd, Nat.reduceSub, Nat.reduceMul, Int.reduceLT, Int.reduceLE, Int.reduceEq, Int.reduceAdd, Int.reduceSub, Int.reduceMul, Int.reduceNeg, Int.reduceToNat, reduceCtorEq, xc, xs, xt, xn, xv, xa, y1, y2, y3, y4, y5, y6]
      exact Abs.out rfl rfl (by (repeat (first | exact Kept.refl | apply Kept.push | refine Kept.kill ?_ (by omega) | refine Kept.set ?_ (by omega))))
    | true =>
      rw [hn] at y4
      cases hv : valueB dv with
      | false =>
        rw [hv] at y5
        simp only [↓STEP, SB, looked, behind, lookOk, AAct.kind, AOp.kind, wpRes, evRes, resV, AOp.ev, bin, binI, binS, shiftI, eqV, un, bound, boundO, fill, fillRows, aggOf, keyEq, findKey, putKey, V.cells, V.flat, byteOf, bytesOf, rdOf, H.wr, H.kOf, splice, isYl, ↓reduceIte, Nat.reduceEqDiff, Nat.reduceLeDiff, Nat.reduceLT, Nat.reduceAdd, Nat.reduceSub, Nat.reduceMul, Int.reduceLT, Int.reduceLE, Int.reduceEq, Int.reduceAdd, Int.reduceSub, Int.reduceMul, Int.reduceNeg, Int.reduceToNat, reduceCtorEq, xc, xs, xt, xn, xv, xa, y1, y2, y3, y4, y5, y6]
        exact Abs.out rfl rfl (by (repeat (first | exact Kept.refl | apply Kept.push | refine Kept.kill ?_ (by omega) | refine Kept.set ?_ (by omega))))
      | true =>
        rw [hv] at y5
        simp only [↓STEP, SB, looked, behind, lookOk, AAct.kind, AOp.kind, wpRes, evRes, resV, AOp.ev, bin, binI, binS, shiftI, eqV, un, bound, boundO, fill, fillRows, aggOf, keyEq, findKey, putKey, V.cells, V.flat, byteOf, bytesOf, rdOf, H.wr, H.kOf, splice, isYl, ↓reduceIte, Nat.reduceEqDiff, Nat.reduceLeDiff, Nat.reduceLT, Nat.reduceAdd, Nat.reduceSub, Nat.reduceMul, Int.reduceLT, Int.reduceLE, Int.reduceEq, Int.reduceAdd, Int.reduceSub, Int.reduceMul, Int.reduceNeg, Int.reduceToNat, reduceCtorEq, xc, xs, xt, xn, xv, xa, y1, y2, y3, y4, y5, y6]
        exact Abs.out rfl rfl (by (repeat (first | exact Kept.refl | apply Kept.push | refine Kept.kill ?_ (by omega) | refine Kept.set ?_ (by omega))))

end Am
