/- Script texts: reading one in the document; a whole text read. -/
import Derived.Test.YtjcchmmmbegamaaDoorScr2
namespace Am
set_option linter.unusedVariables false
set_option linter.unusedSimpArgs false
set_option maxRecDepth 20000
set_option maxHeartbeats 4000000
variable {pr : Prog}

def gDig (ys : List V) (h : H) : Option (V × H) :=
  match ys with
  | [.i .u8 c] => if 0 ≤ c ∧ c < 256 then some (.i .i64 (fIdx hexL c.toNat.toUInt8), h) else none
  | _ => none
theorem gDig_eq (c : UInt8) (h : H) : gDig [.i .u8 (c.toNat : Int)] h = some (.i .i64 (fIdx hexL c), h) := by
  have := c.toNat_lt
  unfold gDig
  simp only
  rw [if_pos ⟨by omega, by omega⟩]
  simp
def DigLoop (h : H) (c : UInt8) (m : Nat) (t : Tm) (g : H) : Prop :=
  ∃ i : Nat, m = 16 - i ∧ i ≤ 16 ∧ t.v 3 = .i .i64 (i : Nat) ∧ t.v 0 = .i .u8 (c.toNat : Int) ∧ (∀ j, j < i → hexL[j]? ≠ some c) ∧ Kept h g
theorem digit_ok : OkF pr c_isthmusref23_digit gDig := by
  intro ys h v h' hg
  unfold gDig at hg
  split at hg
  case h_2 => cases hg
  rename_i cc
  split at hg
  case isFalse => cases hg
  rename_i hcr
  obtain ⟨c, rfl⟩ : ∃ c : UInt8, cc = (c.toNat : Int) := ⟨UInt8.ofNat cc.toNat, by rw [u8_of (by omega)]; omega⟩
  simp only [Int.toNat_natCast, show c.toNat.toUInt8 = c from UInt8.ofNat_toNat] at hg
  cases hg
  unfold wpF c_isthmusref23_digit
  refine ⟨by simp, ?_⟩
  rw [show ([48, 49, 50, 51, 52, 53, 54, 55, 56, 57, 97, 98, 99, 100, 101, 102] : List UInt8) = hexL from rfl]
  simp only [↓STEP, SB, looked, behind, lookOk, AAct.kind, AOp.kind, wpRes, evRes, resV, AOp.ev, bin, binI, binS, shiftI, eqV, un, bound, boundO, fill, fillRows, aggOf, keyEq, findKey, putKey, V.cells, V.flat, byteOf, bytesOf, rdOf, H.wr, H.kOf, splice, isYl, ↓reduceIte, Nat.reduceEqDiff, Nat.reduceLeDiff, Nat.reduceLT, Nat.reduceAdd, Nat.reduceSub, Nat.reduceMul, Int.reduceLT, Int.reduceLE, Int.reduceEq, Int.reduceAdd, Int.reduceSub, Int.reduceMul, Int.reduceNeg, Int.reduceToNat, reduceCtorEq]
  refine wpA_loop_inv (DigLoop h c) ?_ (m := 16) ?_
  · rintro m t g ⟨i, rfl, hi, e3, e0, hno, hk⟩
    by_cases hlt : (i : Int) < 16
    · have hil : i < 16 := by omega
      have hx := hex16 i hil
      have hwr : Go.IntKind.wrap .i64 ((i : Int) + 1) = (i : Int) + 1 := wrap_i64 (by omega) (by omega)
      by_cases hc : hexB i = c
      · have hd : decide (((hexB i).toNat : Int) = (c.toNat : Int)) = true := decide_eq_true (by rw [hc])
        simp only [↓STEP, SB, looked, behind, lookOk, AAct.kind, AOp.kind, wpRes, evRes, resV, AOp.ev, bin, binI, binS, shiftI, eqV, un, bound, boundO, fill, fillRows, aggOf, keyEq, findKey, putKey, V.cells, V.flat, byteOf, bytesOf, rdOf, H.wr, H.kOf, splice, isYl, ↓reduceIte, Nat.reduceEqDiff, Nat.reduceLeDiff, Nat.reduceLT, Nat.reduceAdd, Nat.reduceSub, Nat.reduceMul, Int.reduceLT, Int.reduceLE, Int.reduceEq, Int.reduceAdd, Int.reduceSub, Int.reduceMul, Int.reduceNeg, Int.reduceToNat, reduceCtorEq, e3, e0, hlt, hx, hd]
        refine Abs.out ?_ rfl hk
        have : hexV c = some i := by
          unfold hexV
          rw [List.findIdx?_eq_some_iff_getElem]
          refine ⟨hil, ?_, fun j hj => ?_⟩
          · have := List.getElem?_eq_some_iff.1 hx
            obtain ⟨h0, h2⟩ := this
            exact beq_iff_eq.2 (h2.trans hc)
          · have h2 := hno j hj
            have hjl : j < hexL.length := Nat.lt_trans hj hil
            rw [List.getElem?_eq_getElem hjl] at h2
            simp at h2 ⊢; exact h2
        rw [fIdx_hex_some this]
      · have hd : decide (((hexB i).toNat : Int) = (c.toNat : Int)) = false := decide_eq_false fun hh => hc (UInt8.toNat_inj.1 (by omega))
        simp only [↓STEP, SB, looked, behind, lookOk, AAct.kind, AOp.kind, wpRes, evRes, resV, AOp.ev, bin, binI, binS, shiftI, eqV, un, bound, boundO, fill, fillRows, aggOf, keyEq, findKey, putKey, V.cells, V.flat, byteOf, bytesOf, rdOf, H.wr, H.kOf, splice, isYl, ↓reduceIte, Nat.reduceEqDiff, Nat.reduceLeDiff, Nat.reduceLT, Nat.reduceAdd, Nat.reduceSub, Nat.reduceMul, Int.reduceLT, Int.reduceLE, Int.reduceEq, Int.reduceAdd, Int.reduceSub, Int.reduceMul, Int.reduceNeg, Int.reduceToNat, reduceCtorEq, e3, e0, hlt, hx, hd, hwr]
        refine ⟨_, by omega, i + 1, rfl, by omega, by simp [v_pd], by simp [v_pd, e0], fun j hj => ?_, hk⟩
        by_cases hji : j = i
        · subst hji; rw [hx]; simpa using hc
        · exact hno j (by omega)
    · have hil : i = 16 := by omega
      subst hil
      have hV : hexV c = none := by
        unfold hexV
        rw [List.findIdx?_eq_none_iff]
        intro x hxm
        obtain ⟨j, hj, rfl⟩ := List.getElem_of_mem hxm
        have h2 := hno j hj
        rw [List.getElem?_eq_getElem hj] at h2
        simp at h2 ⊢; exact h2
      simp only [↓STEP, SB, looked, behind, lookOk, AAct.kind, AOp.kind, wpRes, evRes, resV, AOp.ev, bin, binI, binS, shiftI, eqV, un, bound, boundO, fill, fillRows, aggOf, keyEq, findKey, putKey, V.cells, V.flat, byteOf, bytesOf, rdOf, H.wr, H.kOf, splice, isYl, ↓reduceIte, Nat.reduceEqDiff, Nat.reduceLeDiff, Nat.reduceLT, Nat.reduceAdd, Nat.reduceSub, Nat.reduceMul, Int.reduceLT, Int.reduceLE, Int.reduceEq, Int.reduceAdd, Int.reduceSub, Int.reduceMul, Int.reduceNeg, Int.reduceToNat, reduceCtorEq, e3, e0, hlt]
      exact Abs.out (by rw [fIdx_hex_none hV]) rfl hk
  · exact ⟨0, rfl, Nat.zero_le _, by simp [v_pd], by simp [v_pd, v_args_cons], fun j hj => absurd hj (Nat.not_lt_zero _), Kept.refl⟩

/-- A text's place and the place behind it. -/
def textV (n : Nat) : Option (List UInt8 × List UInt8) → V
  | some (t, r) => .tup [.s t, .i .i64 ((n - r.length : Nat) : Int)]
  | none => .tup [.s [], .i .i64 (-1)]
def gTextR (ys : List V) (h : H) : Option (V × H) :=
  match ys with
  | [.s l, .i .i64 k] => if l.length ≤ 100000000 ∧ 0 ≤ k then some (textV l.length (cutF (l.drop k.toNat)), h) else none
  | _ => none
theorem gTextR_eq {l : List UInt8} {k : Nat} {h : H} (hl : l.length ≤ 100000000) : gTextR [.s l, .i .i64 (k : Int)] h = some (textV l.length (cutF (l.drop k)), h) := by
  unfold gTextR
  simp only
  rw [if_pos ⟨hl, by omega⟩]
  simp
def TrLoop (h : H) (l : List UInt8) (R : Option (List UInt8 × List UInt8)) (m : Nat) (t : Tm) (g : H) : Prop :=
  ∃ i a n c ex acc, m = l.length - i ∧ i ≤ l.length ∧ acc.length ≤ i ∧ t.v 0 = .s l ∧ t.v 7 = .i .i64 (i : Nat) ∧ t.v 6 = .sl a n c ex ∧ OutB h g a n c acc ∧ tlF acc (l.drop i) = R
theorem textR_ok {kd : Nat} (hd : pr.ext kd = some gDig) : OkF pr (c_isthmusref23_text kd) gTextR := by
  intro ys h v h' hg
  unfold gTextR at hg
  split at hg
  case h_2 => cases hg
  rename_i l k0
  split at hg
  case isFalse => cases hg
  rename_i hbig
  obtain ⟨k, rfl⟩ : ∃ k : Nat, k0 = (k : Int) := ⟨k0.toNat, by omega⟩
  simp only [Int.toNat_natCast] at hg
  cases hg
  obtain ⟨hbig, _⟩ := hbig
  unfold wpF c_isthmusref23_text
  refine ⟨by simp, ?_⟩
  have hc0 := @wpCall_ext pr kd gDig hd
  by_cases hge : (l.length : Int) ≤ (k : Int)
  · have hR : cutF (l.drop k) = none := by rw [List.drop_eq_nil_iff.2 (by omega)]; rfl
    simp only [↓STEP, SB, looked, behind, lookOk, AAct.kind, AOp.kind, wpRes, evRes, resV, AOp.ev, bin, binI, binS, shiftI, eqV, un, bound, boundO, fill, fillRows, aggOf, keyEq, findKey, putKey, V.cells, V.flat, byteOf, bytesOf, rdOf, H.wr, H.kOf, splice, isYl, ↓reduceIte, Nat.reduceEqDiff, Nat.reduceLeDiff, Nat.reduceLT, Nat.reduceAdd, Nat.reduceSub, Nat.reduceMul, Int.reduceLT, Int.reduceLE, Int.reduceEq, Int.reduceAdd, Int.reduceSub, Int.reduceMul, Int.reduceNeg, Int.reduceToNat, reduceCtorEq, hge, hR]
    exact Abs.out rfl rfl Kept.refl
  · have hk : k < l.length := by omega
    have h1 : l[k]? = some l[k] := List.getElem?_eq_getElem hk
    have hdk := List.drop_eq_getElem_cons hk
    by_cases hq : l[k] = 34
    · have hR : cutF (l.drop k) = tlF [] (l.drop (k + 1)) := by rw [hdk, hq]; simp [cutF]
      rw [hR]
      have e34 : decide (¬ (l[k].toNat : Int) = 34) = false := by rw [hq]; decide
      have hwr : Go.IntKind.wrap .i64 ((k : Int) + 1) = ((k + 1 : Nat) : Int) := wrap_i64 (by omega) (by omega)
      simp only [↓STEP, SB, looked, behind, lookOk, AAct.kind, AOp.kind, wpRes, evRes, resV, AOp.ev, bin, binI, binS, shiftI, eqV, un, bound, boundO, fill, fillRows, aggOf, keyEq, findKey, putKey, V.cells, V.flat, byteOf, bytesOf, rdOf, H.wr, H.kOf, splice, isYl, ↓reduceIte, Nat.reduceEqDiff, Nat.reduceLeDiff, Nat.reduceLT, Nat.reduceAdd, Nat.reduceSub, Nat.reduceMul, Int.reduceLT, Int.reduceLE, Int.reduceEq, Int.reduceAdd, Int.reduceSub, Int.reduceMul, Int.reduceNeg, Int.reduceToNat, reduceCtorEq, hge, h1, e34, hwr]
      refine wpA_loop_inv (TrLoop h l (tlF [] (l.drop (k + 1)))) ?_ (m := l.length - (k + 1)) ?_
      · rintro m t g ⟨i, a, n, c, ex, acc, rfl, hi, hai, e0, e7, e6, o, hT⟩
        have hnl : n = acc.length := o.sl.1.symm
        by_cases hlt : (i : Int) < l.length
        · have hil : i < l.length := by omega
          have hxi : l[i]? = some l[i] := List.getElem?_eq_getElem hil
          rw [List.drop_eq_getElem_cons hil, tlF_cons] at hT
          have hcx := (l[i]).toNat_lt
          have w1 : Go.IntKind.wrap .i64 ((i : Int) + 1) = ((i + 1 : Nat) : Int) := wrap_i64 (by omega) (by omega)
          have w2 : Go.IntKind.wrap .i64 ((i : Int) + 2) = ((i + 2 : Nat) : Int) := wrap_i64 (by omega) (by omega)
          have w3 : Go.IntKind.wrap .i64 (((i + 2 : Nat) : Int) + 1) = ((i + 3 : Nat) : Int) := wrap_i64 (by omega) (by omega)
          generalize l[i] = x at *
          have finish : ∀ (t' : Tm) (g' : H) (i' : Nat) (acc' : List UInt8), i < i' → i' ≤ l.length → acc'.length ≤ i' → t'.v 0 = .s l → t'.v 7 = .i .i64 (i' : Nat) → (∃ a n c ex, t'.v 6 = .sl a n c ex ∧ OutB h g' a n c acc') → tlF acc' (l.drop i') = tlF [] (l.drop (k + 1)) → ∃ m', m' < l.length - i ∧ TrLoop h l (tlF [] (l.drop (k + 1))) m' t' g' := by
            rintro t' g' i' acc' q1 q2 q3 q4 q5 ⟨a', n', c', ex', q6, q7⟩ q8
            exact ⟨_, by omega, i', a', n', c', ex', acc', rfl, q2, q3, q4, q5, q6, q7, q8⟩
          by_cases q34 : x = 34
          · rw [if_pos q34] at hT
            rw [← hT]
            have d34 : decide ((x.toNat : Int) = 34) = true := by rw [q34]; decide
            simp only [↓STEP, SB, looked, behind, lookOk, AAct.kind, AOp.kind, wpRes, evRes, resV, AOp.ev, bin, binI, binS, shiftI, eqV, un, bound, boundO, fill, fillRows, aggOf, keyEq, findKey, putKey, V.cells, V.flat, byteOf, bytesOf, rdOf, H.wr, H.kOf, splice, isYl, ↓reduceIte, Nat.reduceEqDiff, Nat.reduceLeDiff, Nat.reduceLT, Nat.reduceAdd, Nat.reduceSub, Nat.reduceMul, Int.reduceLT, Int.reduceLE, Int.reduceEq, Int.reduceAdd, Int.reduceSub, Int.reduceMul, Int.reduceNeg, Int.reduceToNat, reduceCtorEq, e0, e7, e6, hlt, hxi, d34, w1, o.sl.bseg]
            refine Abs.out ?_ rfl o.kept
            unfold textV
            simp only [List.length_drop]
            congr 4; omega
          · rw [if_neg q34] at hT
            have n34 : ¬ (x.toNat : Int) = 34 := fun hh => q34 (UInt8.toNat_inj.1 (by show x.toNat = 34; omega))
            have d34 := decide_eq_false n34
            by_cases q92 : x = 92
            · have hpl : ¬ plainB x = true := by rw [q92, plain92]; decide
              have d92 : decide ((x.toNat : Int) = 92) = true := by rw [q92]; decide
              rw [if_neg hpl, if_pos q92] at hT
              by_cases h3 : (l.length : Int) ≤ ((i + 2 : Nat) : Int)
              · have hE : tlE acc (l.drop (i + 1)) = none := by
                  have hln : (l.drop (i + 1)).length < 2 := by rw [List.length_drop]; omega
                  generalize l.drop (i + 1) = G at hln ⊢
                  rcases G with _ | ⟨y, _ | ⟨z, s2⟩⟩
                  · rfl
                  · rfl
                  · simp at hln; omega
                rw [hE] at hT
                rw [← hT]
                simp only [↓STEP, SB, looked, behind, lookOk, AAct.kind, AOp.kind, wpRes, evRes, resV, AOp.ev, bin, binI, binS, shiftI, eqV, un, bound, boundO, fill, fillRows, aggOf, keyEq, findKey, putKey, V.cells, V.flat, byteOf, bytesOf, rdOf, H.wr, H.kOf, splice, isYl, ↓reduceIte, Nat.reduceEqDiff, Nat.reduceLeDiff, Nat.reduceLT, Nat.reduceAdd, Nat.reduceSub, Nat.reduceMul, Int.reduceLT, Int.reduceLE, Int.reduceEq, Int.reduceAdd, Int.reduceSub, Int.reduceMul, Int.reduceNeg, Int.reduceToNat, reduceCtorEq, e0, e7, e6, hlt, hxi, d34, d92, w2, h3]
                exact Abs.out rfl rfl o.kept
              · have hi2 : i + 2 < l.length := by omega
                have hs1 : l[i + 1]? = some l[i + 1] := List.getElem?_eq_getElem (by omega)
                have hs2 : l[i + 2]? = some l[i + 2] := List.getElem?_eq_getElem hi2
                rw [List.drop_eq_getElem_cons (show i + 1 < l.length by omega), List.drop_eq_getElem_cons hi2] at hT
                generalize l[i + 1] = y at *
                generalize l[i + 2] = z at *
                have xy : ∀ g', gDig [.i .u8 (y.toNat : Int)] g' = some (.i .i64 (fIdx hexL y), g') := fun g' => gDig_eq _ _
                have xz : ∀ g', gDig [.i .u8 (z.toNat : Int)] g' = some (.i .i64 (fIdx hexL z), g') := fun g' => gDig_eq _ _
                have hE : tlE acc (y :: z :: l.drop (i + 2 + 1)) = (match hexV y, hexV z with
                  | some a, some b => if plainB (UInt8.ofNat (16 * a + b)) = true then none else tlF (acc ++ [UInt8.ofNat (16 * a + b)]) (l.drop (i + 2 + 1))
                  | _, _ => none) := rfl
                rw [hE] at hT
                cases hy : hexV y with
                | none =>
                  rw [hy] at hT
                  rw [← hT]
                  have fy := fIdx_hex_none hy
                  simp only [↓STEP, SB, looked, behind, lookOk, AAct.kind, AOp.kind, wpRes, evRes, resV, AOp.ev, bin, binI, binS, shiftI, eqV, un, bound, boundO, fill, fillRows, aggOf, keyEq, findKey, putKey, V.cells, V.flat, byteOf, bytesOf, rdOf, H.wr, H.kOf, splice, isYl, ↓reduceIte, Nat.reduceEqDiff, Nat.reduceLeDiff, Nat.reduceLT, Nat.reduceAdd, Nat.reduceSub, Nat.reduceMul, Int.reduceLT, Int.reduceLE, Int.reduceEq, Int.reduceAdd, Int.reduceSub, Int.reduceMul, Int.reduceNeg, Int.reduceToNat, reduceCtorEq, e0, e7, e6, hlt, hxi, d34, d92, w1, w2, h3, hs1, hs2, hc0, xy, xz, fy]
                  exact Abs.out rfl rfl o.kept
                | some a1 =>
                  have fy := fIdx_hex_some hy
                  have ha := hexV_lt hy
                  have na : ¬ (a1 : Int) < 0 := by omega
                  cases hz : hexV z with
                  | none =>
                    rw [hy, hz] at hT
                    rw [← hT]
                    have fz := fIdx_hex_none hz
                    simp only [↓STEP, SB, looked, behind, lookOk, AAct.kind, AOp.kind, wpRes, evRes, resV, AOp.ev, bin, binI, binS, shiftI, eqV, un, bound, boundO, fill, fillRows, aggOf, keyEq, findKey, putKey, V.cells, V.flat, byteOf, bytesOf, rdOf, H.wr, H.kOf, splice, isYl, ↓reduceIte, Nat.reduceEqDiff, Nat.reduceLeDiff, Nat.reduceLT, Nat.reduceAdd, Nat.reduceSub, Nat.reduceMul, Int.reduceLT, Int.reduceLE, Int.reduceEq, Int.reduceAdd, Int.reduceSub, Int.reduceMul, Int.reduceNeg, Int.reduceToNat, reduceCtorEq, e0, e7, e6, hlt, hxi, d34, d92, w1, w2, h3, hs1, hs2, hc0, xy, xz, fy, fz, na]
                    exact Abs.out rfl rfl o.kept
                  | some b1 =>
                    have fz := fIdx_hex_some hz
                    have hb := hexV_lt hz
                    have nb : ¬ (b1 : Int) < 0 := by omega
                    rw [hy, hz] at hT
                    simp only at hT
                    have p16 : Go.IntKind.wrap .i64 (16 * (a1 : Int)) = ((16 * a1 : Nat) : Int) := wrap_nat (16 * a1) (by omega)
                    have pab : Go.IntKind.wrap .i64 (((16 * a1 : Nat) : Int) + (b1 : Int)) = ((16 * a1 + b1 : Nat) : Int) := wrap_nat (16 * a1 + b1) (by omega)
                    have wu := wrap_u8c (16 * a1 + b1) (by omega)
                    have hcn : (UInt8.ofNat (16 * a1 + b1)).toNat = 16 * a1 + b1 := u8_of (by omega)
                    have hcu : ((16 * a1 + b1 : Nat) : Int) < 256 := by omega
                    have hiff := plainB_iff (UInt8.ofNat (16 * a1 + b1))
                    rw [hcn] at hiff
                    by_cases hpq : plainB (UInt8.ofNat (16 * a1 + b1)) = true
                    · rw [if_pos hpq] at hT
                      rw [← hT]
                      obtain ⟨g1, g2, g3, g4⟩ := hiff.1 hpq
                      have g1' : (33 : Int) ≤ ((16 * a1 + b1 : Nat) : Int) := by omega
                      have g2' : ((16 * a1 + b1 : Nat) : Int) ≤ 126 := by omega
                      simp only [↓STEP, SB, looked, behind, lookOk, AAct.kind, AOp.kind, wpRes, evRes, resV, AOp.ev, bin, binI, binS, shiftI, eqV, un, bound, boundO, fill, fillRows, aggOf, keyEq, findKey, putKey, V.cells, V.flat, byteOf, bytesOf, rdOf, H.wr, H.kOf, splice, isYl, ↓reduceIte, Nat.reduceEqDiff, Nat.reduceLeDiff, Nat.reduceLT, Nat.reduceAdd, Nat.reduceSub, Nat.reduceMul, Int.reduceLT, Int.reduceLE, Int.reduceEq, Int.reduceAdd, Int.reduceSub, Int.reduceMul, Int.reduceNeg, Int.reduceToNat, reduceCtorEq, e0, e7, e6, hlt, hxi, d34, d92, w1, w2, h3, hs1, hs2, hc0, xy, xz, fy, fz, na, nb, p16, pab, wu, g1', g2', g3, g4]
                      exact Abs.out rfl rfl o.kept
                    · rw [if_neg hpq] at hT
                      obtain ⟨a', c', ex', g', e1, o'⟩ := o.app1 (.bytes [UInt8.ofNat (16 * a1 + b1)] false) ex (UInt8.ofNat (16 * a1 + b1)) (by omega)
                      by_cases g1 : (33 : Int) ≤ ((16 * a1 + b1 : Nat) : Int)
                      · by_cases g2 : ((16 * a1 + b1 : Nat) : Int) ≤ 126
                        · by_cases g3 : ((16 * a1 + b1 : Nat) : Int) = 34
                          · have d3 : decide (¬ ((16 * a1 + b1 : Nat) : Int) = 34) = false := by rw [g3]; decide
                            simp only [↓STEP, SB, looked, behind, lookOk, AAct.kind, AOp.kind, wpRes, evRes, resV, AOp.ev, bin, binI, binS, shiftI, eqV, un, bound, boundO, fill, fillRows, aggOf, keyEq, findKey, putKey, V.cells, V.flat, byteOf, bytesOf, rdOf, H.wr, H.kOf, splice, isYl, ↓reduceIte, Nat.reduceEqDiff, Nat.reduceLeDiff, Nat.reduceLT, Nat.reduceAdd, Nat.reduceSub, Nat.reduceMul, Int.reduceLT, Int.reduceLE, Int.reduceEq, Int.reduceAdd, Int.reduceSub, Int.reduceMul, Int.reduceNeg, Int.reduceToNat, reduceCtorEq, e0, e7, e6, hlt, hxi, d34, d92, w1, w2, w3, h3, hs1, hs2, hc0, xy, xz, fy, fz, na, nb, p16, pab, wu, g1, g2, d3, hcu, List.flatten_cons, List.flatten_nil, bseg_tmp1, e1, Int.toNat_natCast]
                            exact finish _ _ (i + 3) (acc ++ [UInt8.ofNat (16 * a1 + b1)]) (by omega) (by omega) (by simp; omega) (by simp [v_pd, e0]) (by simp [v_pd]) ⟨_, _, _, _, by simp [v_pd]; first | rfl | exact ⟨rfl, rfl, rfl, rfl⟩, o'⟩ hT
                          · have d3 : decide (¬ ((16 * a1 + b1 : Nat) : Int) = 34) = true := decide_eq_true g3
                            have d4 : decide (¬ ((16 * a1 + b1 : Nat) : Int) = 92) = false := decide_eq_false fun g4 => hpq (hiff.2 ⟨by omega, by omega, g3, g4⟩)
                            simp only [↓STEP, SB, looked, behind, lookOk, AAct.kind, AOp.kind, wpRes, evRes, resV, AOp.ev, bin, binI, binS, shiftI, eqV, un, bound, boundO, fill, fillRows, aggOf, keyEq, findKey, putKey, V.cells, V.flat, byteOf, bytesOf, rdOf, H.wr, H.kOf, splice, isYl, ↓reduceIte, Nat.reduceEqDiff, Nat.reduceLeDiff, Nat.reduceLT, Nat.reduceAdd, Nat.reduceSub, Nat.reduceMul, Int.reduceLT, Int.reduceLE, Int.reduceEq, Int.reduceAdd, Int.reduceSub, Int.reduceMul, Int.reduceNeg, Int.reduceToNat, reduceCtorEq, e0, e7, e6, hlt, hxi, d34, d92, w1, w2, w3, h3, hs1, hs2, hc0, xy, xz, fy, fz, na, nb, p16, pab, wu, g1, g2, d3, d4, hcu, List.flatten_cons, List.flatten_nil, bseg_tmp1, e1, Int.toNat_natCast]
                            exact finish _ _ (i + 3) (acc ++ [UInt8.ofNat (16 * a1 + b1)]) (by omega) (by omega) (by simp; omega) (by simp [v_pd, e0]) (by simp [v_pd]) ⟨_, _, _, _, by simp [v_pd]; first | rfl | exact ⟨rfl, rfl, rfl, rfl⟩, o'⟩ hT
                        · simp only [↓STEP, SB, looked, behind, lookOk, AAct.kind, AOp.kind, wpRes, evRes, resV, AOp.ev, bin, binI, binS, shiftI, eqV, un, bound, boundO, fill, fillRows, aggOf, keyEq, findKey, putKey, V.cells, V.flat, byteOf, bytesOf, rdOf, H.wr, H.kOf, splice, isYl, ↓reduceIte, Nat.reduceEqDiff, Nat.reduceLeDiff, Nat.reduceLT, Nat.reduceAdd, Nat.reduceSub, Nat.reduceMul, Int.reduceLT, Int.reduceLE, Int.reduceEq, Int.reduceAdd, Int.reduceSub, Int.reduceMul, Int.reduceNeg, Int.reduceToNat, reduceCtorEq, e0, e7, e6, hlt, hxi, d34, d92, w1, w2, w3, h3, hs1, hs2, hc0, xy, xz, fy, fz, na, nb, p16, pab, wu, g1, g2, hcu, List.flatten_cons, List.flatten_nil, bseg_tmp1, e1, Int.toNat_natCast]
                          exact finish _ _ (i + 3) (acc ++ [UInt8.ofNat (16 * a1 + b1)]) (by omega) (by omega) (by simp; omega) (by simp [v_pd, e0]) (by simp [v_pd]) ⟨_, _, _, _, by simp [v_pd]; first | rfl | exact ⟨rfl, rfl, rfl, rfl⟩, o'⟩ hT
                      · simp only [↓STEP, SB, looked, behind, lookOk, AAct.kind, AOp.kind, wpRes, evRes, resV, AOp.ev, bin, binI, binS, shiftI, eqV, un, bound, boundO, fill, fillRows, aggOf, keyEq, findKey, putKey, V.cells, V.flat, byteOf, bytesOf, rdOf, H.wr, H.kOf, splice, isYl, ↓reduceIte, Nat.reduceEqDiff, Nat.reduceLeDiff, Nat.reduceLT, Nat.reduceAdd, Nat.reduceSub, Nat.reduceMul, Int.reduceLT, Int.reduceLE, Int.reduceEq, Int.reduceAdd, Int.reduceSub, Int.reduceMul, Int.reduceNeg, Int.reduceToNat, reduceCtorEq, e0, e7, e6, hlt, hxi, d34, d92, w1, w2, w3, h3, hs1, hs2, hc0, xy, xz, fy, fz, na, nb, p16, pab, wu, g1, hcu, List.flatten_cons, List.flatten_nil, bseg_tmp1, e1, Int.toNat_natCast]
                        exact finish _ _ (i + 3) (acc ++ [UInt8.ofNat (16 * a1 + b1)]) (by omega) (by omega) (by simp; omega) (by simp [v_pd, e0]) (by simp [v_pd]) ⟨_, _, _, _, by simp [v_pd]; first | rfl | exact ⟨rfl, rfl, rfl, rfl⟩, o'⟩ hT
            · have d92 : decide ((x.toNat : Int) = 92) = false := decide_eq_false fun hh => q92 (UInt8.toNat_inj.1 (by show x.toNat = 92; omega))
              have hiff := plainB_iff x
              by_cases hpl : plainB x = true
              · rw [if_pos hpl] at hT
                obtain ⟨g1, g2, _, _⟩ := hiff.1 hpl
                obtain ⟨a', c', ex', g', e1, o'⟩ := o.app1 (.bytes [x] false) ex x (by omega)
                have hcu : (x.toNat : Int) < 256 := by omega
                simp only [↓STEP, SB, looked, behind, lookOk, AAct.kind, AOp.kind, wpRes, evRes, resV, AOp.ev, bin, binI, binS, shiftI, eqV, un, bound, boundO, fill, fillRows, aggOf, keyEq, findKey, putKey, V.cells, V.flat, byteOf, bytesOf, rdOf, H.wr, H.kOf, splice, isYl, ↓reduceIte, Nat.reduceEqDiff, Nat.reduceLeDiff, Nat.reduceLT, Nat.reduceAdd, Nat.reduceSub, Nat.reduceMul, Int.reduceLT, Int.reduceLE, Int.reduceEq, Int.reduceAdd, Int.reduceSub, Int.reduceMul, Int.reduceNeg, Int.reduceToNat, reduceCtorEq, e0, e7, e6, hlt, hxi, d34, d92, w1, g1, g2, hcu, UInt8.ofNat_toNat, List.flatten_cons, List.flatten_nil, bseg_tmp1, e1]
                exact finish _ _ (i + 1) (acc ++ [x]) (by omega) (by omega) (by simp; omega) (by simp [v_pd, e0]) (by simp [v_pd]) ⟨_, _, _, _, by simp [v_pd]; first | rfl | exact ⟨rfl, rfl, rfl, rfl⟩, o'⟩ hT
              · rw [if_neg hpl, if_neg q92] at hT
                rw [← hT]
                by_cases g1 : (x.toNat : Int) < 33
                · simp only [↓STEP, SB, looked, behind, lookOk, AAct.kind, AOp.kind, wpRes, evRes, resV, AOp.ev, bin, binI, binS, shiftI, eqV, un, bound, boundO, fill, fillRows, aggOf, keyEq, findKey, putKey, V.cells, V.flat, byteOf, bytesOf, rdOf, H.wr, H.kOf, splice, isYl, ↓reduceIte, Nat.reduceEqDiff, Nat.reduceLeDiff, Nat.reduceLT, Nat.reduceAdd, Nat.reduceSub, Nat.reduceMul, Int.reduceLT, Int.reduceLE, Int.reduceEq, Int.reduceAdd, Int.reduceSub, Int.reduceMul, Int.reduceNeg, Int.reduceToNat, reduceCtorEq, e0, e7, e6, hlt, hxi, d34, d92, w1, g1]
                  exact Abs.out rfl rfl o.kept
                · have g2 : 126 < (x.toNat : Int) := Decidable.byContradiction fun g2 => hpl (hiff.2 ⟨g1, g2, n34, of_decide_eq_false d92⟩)
                  simp only [↓STEP, SB, looked, behind, lookOk, AAct.kind, AOp.kind, wpRes, evRes, resV, AOp.ev, bin, binI, binS, shiftI, eqV, un, bound, boundO, fill, fillRows, aggOf, keyEq, findKey, putKey, V.cells, V.flat, byteOf, bytesOf, rdOf, H.wr, H.kOf, splice, isYl, ↓reduceIte, Nat.reduceEqDiff, Nat.reduceLeDiff, Nat.reduceLT, Nat.reduceAdd, Nat.reduceSub, Nat.reduceMul, Int.reduceLT, Int.reduceLE, Int.reduceEq, Int.reduceAdd, Int.reduceSub, Int.reduceMul, Int.reduceNeg, Int.reduceToNat, reduceCtorEq, e0, e7, e6, hlt, hxi, d34, d92, w1, g1, g2]
                  exact Abs.out rfl rfl o.kept
        · have hil : i = l.length := by omega
          subst hil
          rw [List.drop_length, tlF_nil] at hT
          rw [← hT]
          simp only [↓STEP, SB, looked, behind, lookOk, AAct.kind, AOp.kind, wpRes, evRes, resV, AOp.ev, bin, binI, binS, shiftI, eqV, un, bound, boundO, fill, fillRows, aggOf, keyEq, findKey, putKey, V.cells, V.flat, byteOf, bytesOf, rdOf, H.wr, H.kOf, splice, isYl, ↓reduceIte, Nat.reduceEqDiff, Nat.reduceLeDiff, Nat.reduceLT, Nat.reduceAdd, Nat.reduceSub, Nat.reduceMul, Int.reduceLT, Int.reduceLE, Int.reduceEq, Int.reduceAdd, Int.reduceSub, Int.reduceMul, Int.reduceNeg, Int.reduceToNat, reduceCtorEq, e0, e7, e6, hlt]
          exact Abs.out rfl rfl o.kept
      · exact ⟨k + 1, none, 0, 0, true, [], rfl, by omega, by simp, by simp [v_pd, v_args_cons], by simp [v_pd], by simp [v_pd], OutB.nil h, rfl⟩
    · have hR : cutF (l.drop k) = none := by rw [hdk]; simp [cutF, hq]
      have e34 : decide (¬ (l[k].toNat : Int) = 34) = true := decide_eq_true fun hh => hq (UInt8.toNat_inj.1 (by show (l[k]).toNat = 34; omega))
      simp only [↓STEP, SB, looked, behind, lookOk, AAct.kind, AOp.kind, wpRes, evRes, resV, AOp.ev, bin, binI, binS, shiftI, eqV, un, bound, boundO, fill, fillRows, aggOf, keyEq, findKey, putKey, V.cells, V.flat, byteOf, bytesOf, rdOf, H.wr, H.kOf, splice, isYl, ↓reduceIte, Nat.reduceEqDiff, Nat.reduceLeDiff, Nat.reduceLT, Nat.reduceAdd, Nat.reduceSub, Nat.reduceMul, Int.reduceLT, Int.reduceLE, Int.reduceEq, Int.reduceAdd, Int.reduceSub, Int.reduceMul, Int.reduceNeg, Int.reduceToNat, reduceCtorEq, hge, h1, e34, hR]
      exact Abs.out rfl rfl Kept.refl
def readV (s : List UInt8) : V :=
  match cutF s with
  | some (t, []) => .tup [.s t, .i .i64 0]
  | _ => .tup [.s [], .i .i64 12]
def gRT (ys : List V) (h : H) : Option (V × H) :=
  match ys with
  | [.s l] => if l.length ≤ 100000000 then some (readV l, h) else none
  | _ => none
theorem gRT_eq {l : List UInt8} {h : H} (hl : l.length ≤ 100000000) : gRT [.s l] h = some (readV l, h) := if_pos hl
theorem readTextP_ok {kc : Nat} (hcu : pr.ext kc = some gCut2) : OkF pr (c_script_ReadText kc) gRT := by
  intro ys h v h' hg
  unfold gRT at hg
  split at hg
  case h_2 => cases hg
  rename_i l
  split at hg
  case isFalse => cases hg
  rename_i hbig
  cases hg
  unfold wpF c_script_ReadText
  refine ⟨by simp, ?_⟩
  have hc0 := @wpCall_ext pr kc gCut2 hcu
  have hx : ∀ g', gCut2 [.s l] g' = some (cut2V (cutF l), g') := fun g' => gCut2_eq hbig
  unfold readV
  cases hC : cutF l with
  | none =>
    rw [hC] at hx
    simp only [↓STEP, SB, looked, behind, lookOk, AAct.kind, AOp.kind, wpRes, evRes, resV, AOp.ev, bin, binI, binS, shiftI, eqV, un, bound, boundO, fill, fillRows, aggOf, keyEq, findKey, putKey, V.cells, V.flat, byteOf, bytesOf, rdOf, H.wr, H.kOf, splice, isYl, ↓reduceIte, Nat.reduceEqDiff, Nat.reduceLeDiff, Nat.reduceLT, Nat.reduceAdd, Nat.reduceSub, Nat.reduceMul, Int.reduceLT, Int.reduceLE, Int.reduceEq, Int.reduceAdd, Int.reduceSub, Int.reduceMul, Int.reduceNeg, Int.reduceToNat, reduceCtorEq, hc0, hx, cut2V]
    exact Abs.out rfl rfl Kept.refl
  | some p =>
    obtain ⟨t, r⟩ := p
    rw [hC] at hx
    cases r with
    | nil =>
      simp only [↓STEP, SB, looked, behind, lookOk, AAct.kind, AOp.kind, wpRes, evRes, resV, AOp.ev, bin, binI, binS, shiftI, eqV, un, bound, boundO, fill, fillRows, aggOf, keyEq, findKey, putKey, V.cells, V.flat, byteOf, bytesOf, rdOf, H.wr, H.kOf, splice, isYl, ↓reduceIte, Nat.reduceEqDiff, Nat.reduceLeDiff, Nat.reduceLT, Nat.reduceAdd, Nat.reduceSub, Nat.reduceMul, Int.reduceLT, Int.reduceLE, Int.reduceEq, Int.reduceAdd, Int.reduceSub, Int.reduceMul, Int.reduceNeg, Int.reduceToNat, reduceCtorEq, hc0, hx, cut2V]
      exact Abs.out rfl rfl Kept.refl
    | cons c r =>
      have hne : ¬ (c :: r) = ([] : List UInt8) := by simp
      simp only [↓STEP, SB, looked, behind, lookOk, AAct.kind, AOp.kind, wpRes, evRes, resV, AOp.ev, bin, binI, binS, shiftI, eqV, un, bound, boundO, fill, fillRows, aggOf, keyEq, findKey, putKey, V.cells, V.flat, byteOf, bytesOf, rdOf, H.wr, H.kOf, splice, isYl, ↓reduceIte, Nat.reduceEqDiff, Nat.reduceLeDiff, Nat.reduceLT, Nat.reduceAdd, Nat.reduceSub, Nat.reduceMul, Int.reduceLT, Int.reduceLE, Int.reduceEq, Int.reduceAdd, Int.reduceSub, Int.reduceMul, Int.reduceNeg, Int.reduceToNat, reduceCtorEq, hc0, hx, cut2V, hne]
      exact Abs.out rfl rfl Kept.refl
theorem readTextR_ok {kt : Nat} (hT : pr.ext kt = some gTextR) : OkF pr (c_isthmusref23_ReadText kt) gRT := by
  intro ys h v h' hg
  unfold gRT at hg
  split at hg
  case h_2 => cases hg
  rename_i l
  split at hg
  case isFalse => cases hg
  rename_i hbig
  cases hg
  unfold wpF c_isthmusref23_ReadText
  refine ⟨by simp, ?_⟩
  have hc0 := @wpCall_ext pr kt gTextR hT
  have hx : ∀ g', gTextR [.s l, .i .i64 0] g' = some (textV l.length (cutF l), g') := fun g' => gTextR_eq (k := 0) hbig
  unfold readV
  cases hC : cutF l with
  | none =>
    rw [hC] at hx
    have hne : ¬ (-1 : Int) = (l.length : Int) := by omega
    simp only [↓STEP, SB, looked, behind, lookOk, AAct.kind, AOp.kind, wpRes, evRes, resV, AOp.ev, bin, binI, binS, shiftI, eqV, un, bound, boundO, fill, fillRows, aggOf, keyEq, findKey, putKey, V.cells, V.flat, byteOf, bytesOf, rdOf, H.wr, H.kOf, splice, isYl, ↓reduceIte, Nat.reduceEqDiff, Nat.reduceLeDiff, Nat.reduceLT, Nat.reduceAdd, Nat.reduceSub, Nat.reduceMul, Int.reduceLT, Int.reduceLE, Int.reduceEq, Int.reduceAdd, Int.reduceSub, Int.reduceMul, Int.reduceNeg, Int.reduceToNat, reduceCtorEq, hc0, hx, textV, hne]
    exact Abs.out rfl rfl Kept.refl
  | some p =>
    obtain ⟨t, r⟩ := p
    rw [hC] at hx
    have hlen := cutF_len hC
    cases r with
    | nil =>
      simp only [↓STEP, SB, looked, behind, lookOk, AAct.kind, AOp.kind, wpRes, evRes, resV, AOp.ev, bin, binI, binS, shiftI, eqV, un, bound, boundO, fill, fillRows, aggOf, keyEq, findKey, putKey, V.cells, V.flat, byteOf, bytesOf, rdOf, H.wr, H.kOf, splice, isYl, ↓reduceIte, Nat.reduceEqDiff, Nat.reduceLeDiff, Nat.reduceLT, Nat.reduceAdd, Nat.reduceSub, Nat.reduceMul, Int.reduceLT, Int.reduceLE, Int.reduceEq, Int.reduceAdd, Int.reduceSub, Int.reduceMul, Int.reduceNeg, Int.reduceToNat, reduceCtorEq, hc0, hx, textV, List.length_nil, Nat.sub_zero]
      exact Abs.out rfl rfl Kept.refl
    | cons c r =>
      simp only [List.length_cons] at hlen
      have hne : ¬ ((l.length - (r.length + 1) : Nat) : Int) = (l.length : Int) := by omega
      simp only [↓STEP, SB, looked, behind, lookOk, AAct.kind, AOp.kind, wpRes, evRes, resV, AOp.ev, bin, binI, binS, shiftI, eqV, un, bound, boundO, fill, fillRows, aggOf, keyEq, findKey, putKey, V.cells, V.flat, byteOf, bytesOf, rdOf, H.wr, H.kOf, splice, isYl, ↓reduceIte, Nat.reduceEqDiff, Nat.reduceLeDiff, Nat.reduceLT, Nat.reduceAdd, Nat.reduceSub, Nat.reduceMul, Int.reduceLT, Int.reduceLE, Int.reduceEq, Int.reduceAdd, Int.reduceSub, Int.reduceMul, Int.reduceNeg, Int.reduceToNat, reduceCtorEq, hc0, hx, textV, List.length_cons, hne]
      exact Abs.out rfl rfl Kept.refl
end Am
