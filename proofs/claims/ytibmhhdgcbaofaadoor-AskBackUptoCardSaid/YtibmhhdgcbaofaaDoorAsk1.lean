/- The answer of an upgrade: what reading it gives; the law AskYes. -/
import Derived.Test.YtibmhhdgcbaofaaDoorBs
import Derived.Test.YtibmhhdgcbaofaaDoorField1
import Derived.Test.YtibmhhdgcbaofaaDoorAmIndex
import Derived.Test.YtibmhhdgcbaofaaDoorCodesAll
namespace Am
set_option linter.unusedVariables false
set_option linter.unusedSimpArgs false
set_option maxRecDepth 20000
set_option maxHeartbeats 4000000
variable {pr : Prog}

def yesL : List UInt8 := [72, 84, 84, 80, 47, 49, 46, 49, 32, 49, 48, 49, 32, 83, 119, 105, 116, 99, 104, 105, 110, 103, 32, 80, 114, 111, 116, 111, 99, 111, 108, 115, 13, 10, 67, 111, 110, 110, 101, 99, 116, 105, 111, 110, 58, 32, 85, 112, 103, 114, 97, 100, 101, 13, 10, 85, 112, 103, 114, 97, 100, 101, 58, 32, 104, 50, 99, 13, 10, 13, 10]
def yesF (l : List UInt8) : Int × Int := if l.take 71 = yesL.take l.length then (if l.length < 71 then (0, 3) else (71, 0)) else (0, 4)
def gYes (ys : List V) (h : H) : Option (V × H) :=
  match ys with
  | [.sl a n c ex] => if n ≤ c then (rdB h a n).bind fun l => some (.tup [.i .i64 (yesF l).1, .i .i64 (yesF l).2], h) else none
  | _ => none
theorem yesL_len : yesL.length = 71 := rfl
theorem readYes_ok : OkF pr c_upgrade_ReadYes gYes := by
  intro ys h v h' hg
  unfold gYes at hg
  split at hg
  case h_2 => cases hg
  rename_i a n c ex
  split at hg
  case isFalse => cases hg
  rename_i hc
  obtain ⟨l, hl, hg⟩ := Option.bind_eq_some_iff.1 hg
  cases hg
  have hlen := rdB_len hl
  unfold wpF c_upgrade_ReadYes
  refine ⟨by simp, ?_⟩
  rw [show ([72, 84, 84, 80, 47, 49, 46, 49, 32, 49, 48, 49, 32, 83, 119, 105, 116, 99, 104, 105, 110, 103, 32, 80, 114, 111, 116, 111, 99, 111, 108, 115, 13, 10, 67, 111, 110, 110, 101, 99, 116, 105, 111, 110, 58, 32, 85, 112, 103, 114, 97, 100, 101, 13, 10, 85, 112, 103, 114, 97, 100, 101, 58, 32, 104, 50, 99, 13, 10, 13, 10] : List UInt8) = yesL from rfl]
  by_cases h71 : (71 : Int) < n
  · have hb := bseg_take (rdB_bseg hl) (k := 71) (by omega)
    have h1 : (71 : Int) ≤ c := by omega
    have h2 : (71 : Int) ≤ (yesL.length : Int) := by rw [yesL_len]; decide
    rcases a with _ | ⟨b, r⟩
    all_goals (
      simp only [↓STEP, SB, looked, behind, lookOk, AAct.kind, AOp.kind, wpRes, evRes, resV, AOp.ev, bin, binI, binS, shiftI, eqV, un, bound, boundO, fill, fillRows, aggOf, keyEq, findKey, putKey, V.cells, V.flat, byteOf, bytesOf, rdOf, H.wr, H.kOf, splice, isYl, ↓reduceIte, Nat.reduceEqDiff, Nat.reduceLeDiff, Nat.reduceLT, Nat.reduceAdd, Nat.reduceSub, Nat.reduceMul, Int.reduceLT, Int.reduceLE, Int.reduceEq, Int.reduceAdd, Int.reduceSub, Int.reduceMul, Int.reduceNeg, Int.reduceToNat, reduceCtorEq, minV, h71, h1, h2, Nat.sub_zero, Option.isSome_none, hb]
      by_cases e : l.take 71 = yesL.take 71
      · simp only [↓STEP, SB, looked, behind, lookOk, AAct.kind, AOp.kind, wpRes, evRes, resV, AOp.ev, bin, binI, binS, shiftI, eqV, un, bound, boundO, fill, fillRows, aggOf, keyEq, findKey, putKey, V.cells, V.flat, byteOf, bytesOf, rdOf, H.wr, H.kOf, splice, isYl, ↓reduceIte, Nat.reduceEqDiff, Nat.reduceLeDiff, Nat.reduceLT, Nat.reduceAdd, Nat.reduceSub, Nat.reduceMul, Int.reduceLT, Int.reduceLE, Int.reduceEq, Int.reduceAdd, Int.reduceSub, Int.reduceMul, Int.reduceNeg, Int.reduceToNat, reduceCtorEq, e]
        exact Abs.eq (by unfold yesF; rw [if_pos (by rw [e, List.take_of_length_le (i := l.length) (by rw [yesL_len]; omega)]; rfl), if_neg (by omega)]) rfl
      · simp only [↓STEP, SB, looked, behind, lookOk, AAct.kind, AOp.kind, wpRes, evRes, resV, AOp.ev, bin, binI, binS, shiftI, eqV, un, bound, boundO, fill, fillRows, aggOf, keyEq, findKey, putKey, V.cells, V.flat, byteOf, bytesOf, rdOf, H.wr, H.kOf, splice, isYl, ↓reduceIte, Nat.reduceEqDiff, Nat.reduceLeDiff, Nat.reduceLT, Nat.reduceAdd, Nat.reduceSub, Nat.reduceMul, Int.reduceLT, Int.reduceLE, Int.reduceEq, Int.reduceAdd, Int.reduceSub, Int.reduceMul, Int.reduceNeg, Int.reduceToNat, reduceCtorEq, e]
        exact Abs.eq (by unfold yesF; rw [if_neg (by rw [List.take_of_length_le (i := l.length) (by rw [yesL_len]; omega)]; exact e)]) rfl)
  · have hb := rdB_bseg hl
    have hn : ¬ (71 : Int) < n := h71
    have h1 : (n : Int) ≤ c := by omega
    have h2 : (n : Int) ≤ (yesL.length : Int) := by rw [yesL_len]; omega
    have ht : l.take 71 = l := List.take_of_length_le (by omega)
    rcases a with _ | ⟨b, r⟩
    all_goals (
      simp only [↓STEP, SB, looked, behind, lookOk, AAct.kind, AOp.kind, wpRes, evRes, resV, AOp.ev, bin, binI, binS, shiftI, eqV, un, bound, boundO, fill, fillRows, aggOf, keyEq, findKey, putKey, V.cells, V.flat, byteOf, bytesOf, rdOf, H.wr, H.kOf, splice, isYl, ↓reduceIte, Nat.reduceEqDiff, Nat.reduceLeDiff, Nat.reduceLT, Nat.reduceAdd, Nat.reduceSub, Nat.reduceMul, Int.reduceLT, Int.reduceLE, Int.reduceEq, Int.reduceAdd, Int.reduceSub, Int.reduceMul, Int.reduceNeg, Int.reduceToNat, reduceCtorEq, minV, hn, h1, h2, Nat.sub_zero, Option.isSome_none, hb]
      by_cases e : l = yesL.take n
      · by_cases e1 : (n : Int) < 71
        · simp only [↓STEP, SB, looked, behind, lookOk, AAct.kind, AOp.kind, wpRes, evRes, resV, AOp.ev, bin, binI, binS, shiftI, eqV, un, bound, boundO, fill, fillRows, aggOf, keyEq, findKey, putKey, V.cells, V.flat, byteOf, bytesOf, rdOf, H.wr, H.kOf, splice, isYl, ↓reduceIte, Nat.reduceEqDiff, Nat.reduceLeDiff, Nat.reduceLT, Nat.reduceAdd, Nat.reduceSub, Nat.reduceMul, Int.reduceLT, Int.reduceLE, Int.reduceEq, Int.reduceAdd, Int.reduceSub, Int.reduceMul, Int.reduceNeg, Int.reduceToNat, reduceCtorEq, eq_true e, e1]
          exact Abs.eq (by unfold yesF; rw [if_pos (by rw [ht, hlen]; exact e), if_pos (by omega)]) rfl
        · simp only [↓STEP, SB, looked, behind, lookOk, AAct.kind, AOp.kind, wpRes, evRes, resV, AOp.ev, bin, binI, binS, shiftI, eqV, un, bound, boundO, fill, fillRows, aggOf, keyEq, findKey, putKey, V.cells, V.flat, byteOf, bytesOf, rdOf, H.wr, H.kOf, splice, isYl, ↓reduceIte, Nat.reduceEqDiff, Nat.reduceLeDiff, Nat.reduceLT, Nat.reduceAdd, Nat.reduceSub, Nat.reduceMul, Int.reduceLT, Int.reduceLE, Int.reduceEq, Int.reduceAdd, Int.reduceSub, Int.reduceMul, Int.reduceNeg, Int.reduceToNat, reduceCtorEq, eq_true e, e1]
          exact Abs.eq (by unfold yesF; rw [if_pos (by rw [ht, hlen]; exact e), if_neg (by omega)]) rfl
      · simp only [↓STEP, SB, looked, behind, lookOk, AAct.kind, AOp.kind, wpRes, evRes, resV, AOp.ev, bin, binI, binS, shiftI, eqV, un, bound, boundO, fill, fillRows, aggOf, keyEq, findKey, putKey, V.cells, V.flat, byteOf, bytesOf, rdOf, H.wr, H.kOf, splice, isYl, ↓reduceIte, Nat.reduceEqDiff, Nat.reduceLeDiff, Nat.reduceLT, Nat.reduceAdd, Nat.reduceSub, Nat.reduceMul, Int.reduceLT, Int.reduceLE, Int.reduceEq, Int.reduceAdd, Int.reduceSub, Int.reduceMul, Int.reduceNeg, Int.reduceToNat, reduceCtorEq, e]
        exact Abs.eq (by unfold yesF; rw [if_neg (by rw [ht, hlen]; exact e)]) rfl)

theorem u8_ne {x y : UInt8} : ((x.toNat : Int) = y.toNat) ↔ x = y :=
  ⟨fun h => UInt8.toNat_inj.1 (by omega), fun h => by rw [h]⟩

def YesLoop (l : List UInt8) (a : Option (Nat × Nat)) (n c : Nat) (ex : Bool) (h : H) (m : Nat) (t : Tm) (g : H) : Prop :=
  ∃ i : Nat, m = 71 - i ∧ i ≤ 71 ∧ i ≤ n ∧ t.v 4 = .i .i64 i ∧ t.v 0 = .sl a n c ex ∧ g = h ∧ l.take i = yesL.take i

theorem readYes18_ok : OkF pr c_isthmusref18_ReadYes gYes := by
  intro ys h v h' hg
  unfold gYes at hg
  split at hg
  case h_2 => cases hg
  rename_i a n c ex
  split at hg
  case isFalse => cases hg
  rename_i hc
  obtain ⟨l, hl, hg⟩ := Option.bind_eq_some_iff.1 hg
  cases hg
  have hlen := rdB_len hl
  unfold wpF c_isthmusref18_ReadYes
  refine ⟨by simp, ?_⟩
  rw [show ([72, 84, 84, 80, 47, 49, 46, 49, 32, 49, 48, 49, 32, 83, 119, 105, 116, 99, 104, 105, 110, 103, 32, 80, 114, 111, 116, 111, 99, 111, 108, 115, 13, 10, 67, 111, 110, 110, 101, 99, 116, 105, 111, 110, 58, 32, 85, 112, 103, 114, 97, 100, 101, 13, 10, 85, 112, 103, 114, 97, 100, 101, 58, 32, 104, 50, 99, 13, 10, 13, 10] : List UInt8) = yesL from rfl]
  simp only [↓STEP, SB, looked, behind, lookOk, AAct.kind, AOp.kind, wpRes, evRes, resV, AOp.ev, bin, binI, binS, shiftI, eqV, un, bound, boundO, fill, fillRows, aggOf, keyEq, findKey, putKey, V.cells, V.flat, byteOf, bytesOf, rdOf, H.wr, H.kOf, splice, isYl, ↓reduceIte, Nat.reduceEqDiff, Nat.reduceLeDiff, Nat.reduceLT, Nat.reduceAdd, Nat.reduceSub, Nat.reduceMul, Int.reduceLT, Int.reduceLE, Int.reduceEq, Int.reduceAdd, Int.reduceSub, Int.reduceMul, Int.reduceNeg, Int.reduceToNat, reduceCtorEq]
  refine wpA_loop_inv (YesLoop l a n c ex h) ?_ (m := 71) ?_
  · rintro m t g ⟨i, rfl, hi, hin, e4, e0, rfl, htk⟩
    by_cases hn : (i : Int) < n
    · by_cases h7 : (i : Int) < 71
      · obtain ⟨b, r, bs, ro, rfl, hgt, hle, hl2, hat⟩ := bseg_open (rdB_bseg hl) (by omega)
        have hil : i < l.length := by omega
        have hiy : i < yesL.length := by rw [yesL_len]; omega
        have h1 : bs[r + i]? = some l[i] := (hat i (by omega)).trans (List.getElem?_eq_getElem hil)
        have h2 : yesL[i]? = some yesL[i] := List.getElem?_eq_getElem hiy
        have hwr : Go.IntKind.wrap .i64 ((i : Int) + 1) = (i : Int) + 1 := wrap_i64 (by omega) (by omega)
        by_cases e : l[i] = yesL[i]
        · have e' := eq_true (u8_ne.2 e)
          simp only [↓STEP, SB, looked, behind, lookOk, AAct.kind, AOp.kind, wpRes, evRes, resV, AOp.ev, bin, binI, binS, shiftI, eqV, un, bound, boundO, fill, fillRows, aggOf, keyEq, findKey, putKey, V.cells, V.flat, byteOf, bytesOf, rdOf, H.wr, H.kOf, splice, isYl, ↓reduceIte, Nat.reduceEqDiff, Nat.reduceLeDiff, Nat.reduceLT, Nat.reduceAdd, Nat.reduceSub, Nat.reduceMul, Int.reduceLT, Int.reduceLE, Int.reduceEq, Int.reduceAdd, Int.reduceSub, Int.reduceMul, Int.reduceNeg, Int.reduceToNat, reduceCtorEq, e4, e0, hn, h7, hgt, h1, h2, e', hwr]
          exact ⟨_, by omega, i + 1, rfl, by omega, by omega, by simp [v_pd], by simp [v_pd, e0], rfl, by rw [List.take_add_one, List.take_add_one, htk, h2, List.getElem?_eq_getElem hil, e]⟩
        · have e' : ¬ ((l[i].toNat : Int) = yesL[i].toNat) := fun x => e (u8_ne.1 x)
          simp only [↓STEP, SB, looked, behind, lookOk, AAct.kind, AOp.kind, wpRes, evRes, resV, AOp.ev, bin, binI, binS, shiftI, eqV, un, bound, boundO, fill, fillRows, aggOf, keyEq, findKey, putKey, V.cells, V.flat, byteOf, bytesOf, rdOf, H.wr, H.kOf, splice, isYl, ↓reduceIte, Nat.reduceEqDiff, Nat.reduceLeDiff, Nat.reduceLT, Nat.reduceAdd, Nat.reduceSub, Nat.reduceMul, Int.reduceLT, Int.reduceLE, Int.reduceEq, Int.reduceAdd, Int.reduceSub, Int.reduceMul, Int.reduceNeg, Int.reduceToNat, reduceCtorEq, e4, e0, hn, h7, hgt, h1, h2, e', hwr]
          exact Abs.eq (by
            unfold yesF
            rw [if_neg]
            intro x
            have : (l.take 71)[i]? = (yesL.take l.length)[i]? := by rw [x]
            rw [List.getElem?_take_of_lt (by omega), List.getElem?_take_of_lt (by omega), h2, List.getElem?_eq_getElem hil] at this
            exact e (Option.some.inj this)) rfl
      · have h8 : ¬ (n : Int) < 71 := by omega
        simp only [↓STEP, SB, looked, behind, lookOk, AAct.kind, AOp.kind, wpRes, evRes, resV, AOp.ev, bin, binI, binS, shiftI, eqV, un, bound, boundO, fill, fillRows, aggOf, keyEq, findKey, putKey, V.cells, V.flat, byteOf, bytesOf, rdOf, H.wr, H.kOf, splice, isYl, ↓reduceIte, Nat.reduceEqDiff, Nat.reduceLeDiff, Nat.reduceLT, Nat.reduceAdd, Nat.reduceSub, Nat.reduceMul, Int.reduceLT, Int.reduceLE, Int.reduceEq, Int.reduceAdd, Int.reduceSub, Int.reduceMul, Int.reduceNeg, Int.reduceToNat, reduceCtorEq, e4, e0, hn, h7, h8]
        exact Abs.eq (by
          unfold yesF
          have : i = 71 := by omega
          subst this
          rw [if_pos (by rw [htk, List.take_of_length_le (i := l.length) (by rw [yesL_len]; omega)]; rfl), if_neg (by omega)]) rfl
    · simp only [↓STEP, SB, looked, behind, lookOk, AAct.kind, AOp.kind, wpRes, evRes, resV, AOp.ev, bin, binI, binS, shiftI, eqV, un, bound, boundO, fill, fillRows, aggOf, keyEq, findKey, putKey, V.cells, V.flat, byteOf, bytesOf, rdOf, H.wr, H.kOf, splice, isYl, ↓reduceIte, Nat.reduceEqDiff, Nat.reduceLeDiff, Nat.reduceLT, Nat.reduceAdd, Nat.reduceSub, Nat.reduceMul, Int.reduceLT, Int.reduceLE, Int.reduceEq, Int.reduceAdd, Int.reduceSub, Int.reduceMul, Int.reduceNeg, Int.reduceToNat, reduceCtorEq, e4, e0, hn]
      have hin' : i = n := by omega
      subst hin'
      have ht : l.take 71 = l := List.take_of_length_le (by omega)
      have ht2 : l.take i = l := List.take_of_length_le (by omega)
      by_cases h8 : (i : Int) < 71
      · simp only [↓STEP, SB, looked, behind, lookOk, AAct.kind, AOp.kind, wpRes, evRes, resV, AOp.ev, bin, binI, binS, shiftI, eqV, un, bound, boundO, fill, fillRows, aggOf, keyEq, findKey, putKey, V.cells, V.flat, byteOf, bytesOf, rdOf, H.wr, H.kOf, splice, isYl, ↓reduceIte, Nat.reduceEqDiff, Nat.reduceLeDiff, Nat.reduceLT, Nat.reduceAdd, Nat.reduceSub, Nat.reduceMul, Int.reduceLT, Int.reduceLE, Int.reduceEq, Int.reduceAdd, Int.reduceSub, Int.reduceMul, Int.reduceNeg, Int.reduceToNat, reduceCtorEq, e4, e0, h8]
        exact Abs.eq (by unfold yesF; rw [if_pos (by rw [ht, hlen, ← htk, ht2]), if_pos (by omega)]) rfl
      · simp only [↓STEP, SB, looked, behind, lookOk, AAct.kind, AOp.kind, wpRes, evRes, resV, AOp.ev, bin, binI, binS, shiftI, eqV, un, bound, boundO, fill, fillRows, aggOf, keyEq, findKey, putKey, V.cells, V.flat, byteOf, bytesOf, rdOf, H.wr, H.kOf, splice, isYl, ↓reduceIte, Nat.reduceEqDiff, Nat.reduceLeDiff, Nat.reduceLT, Nat.reduceAdd, Nat.reduceSub, Nat.reduceMul, Int.reduceLT, Int.reduceLE, Int.reduceEq, Int.reduceAdd, Int.reduceSub, Int.reduceMul, Int.reduceNeg, Int.reduceToNat, reduceCtorEq, e4, e0, h8]
        exact Abs.eq (by unfold yesF; rw [if_pos (by rw [ht, hlen, ← htk, ht2]), if_neg (by omega)]) rfl
  · exact ⟨0, rfl, by omega, by omega, by simp [v_pd], by simp [v_pd, v_args_cons], rfl, rfl⟩

theorem xConstG_eq {G : Nat} {h : H} {v : V} (hh : hasG G h = true) : xConstG G v [] h = some (v, h) := by unfold xConstG; rw [if_pos hh]
end Am
