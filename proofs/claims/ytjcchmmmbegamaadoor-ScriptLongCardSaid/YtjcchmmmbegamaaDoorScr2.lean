/- Script texts: reading one, in the program and in the document. -/
import Derived.Test.YtjcchmmmbegamaaDoorScr1
import Derived.Test.YtjcchmmmbegamaaDoorField5
namespace Am
set_option linter.unusedVariables false
set_option linter.unusedSimpArgs false
set_option maxRecDepth 20000
set_option maxHeartbeats 4000000
variable {pr : Prog}

theorem fIdx_hex_some {x : UInt8} {a : Nat} (h : hexV x = some a) : fIdx hexL x = (a : Int) := by
  unfold hexV at h; unfold fIdx; rw [h]
theorem fIdx_hex_none {x : UInt8} (h : hexV x = none) : fIdx hexL x = -1 := by
  unfold hexV at h; unfold fIdx; rw [h]
def cut2V : Option (List UInt8 × List UInt8) → V
  | some (t, r) => .tup [.s t, .s r, .b true]
  | none => .tup [.s [], .s [], .b false]
def gCut2 (ys : List V) (h : H) : Option (V × H) :=
  match ys with
  | [.s l] => if l.length ≤ 100000000 then some (cut2V (cutF l), h) else none
  | _ => none
theorem gCut2_eq {l : List UInt8} {h : H} (hl : l.length ≤ 100000000) : gCut2 [.s l] h = some (cut2V (cutF l), h) := if_pos hl
def CutLoop (h : H) (N : Nat) (R : Option (List UInt8 × List UInt8)) (m : Nat) (t : Tm) (g : H) : Prop :=
  ∃ s a n c ex acc, m = s.length ∧ acc.length + s.length ≤ N ∧ t.v 0 = .s s ∧ t.v 5 = .sl a n c ex ∧ OutB h g a n c acc ∧ tlF acc s = R
theorem OutB.app1b {h0 g : H} {a : Option (Nat × Nat)} {n c : Nat} {out : List UInt8} (o : OutB h0 g a n c out) (x : Blk) (ex : Bool) (b : UInt8) (hn : n + 1 ≤ 35184372088832) :
    ∃ a' c' ex' g', appBytes (g.push x) 1 a n c ex [b] = some (.sl a' (n + 1) c' ex', g') ∧ Nat.ble (g.nx + 1) g'.nx = true ∧ OutB h0 g' a' (n + 1) c' (out ++ [b]) := by
  obtain ⟨a', c', ex', g', e, o'⟩ := (o.push x).app ex [b] hn
  exact ⟨a', c', ex', g', e, appBytes_nx (o.push x).sl e, o'⟩
theorem u8_of {n : Nat} (h : n < 256) : (UInt8.ofNat n).toNat = n := by
  rw [UInt8.toNat_ofNat']; exact Nat.mod_eq_of_lt h
theorem cut2_ok {kh kp ki : Nat} (hh : pr.ext kh = some gPre) (hp : pr.ext kp = some gPl) (hi : pr.ext ki = some xIndexByte) : OkF pr (c_script_cut kh kp ki) gCut2 := by
  intro ys h v h' hg
  unfold gCut2 at hg
  split at hg
  case h_2 => cases hg
  rename_i l
  split at hg
  case isFalse => cases hg
  rename_i hbig
  cases hg
  unfold wpF c_script_cut
  refine ⟨by simp, ?_⟩
  rw [show ([48, 49, 50, 51, 52, 53, 54, 55, 56, 57, 97, 98, 99, 100, 101, 102] : List UInt8) = hexL from rfl]
  have hc0 := @wpCall_ext pr kh gPre hh
  have hc1 := @wpCall_ext pr kp gPl hp
  have hc2 := @wpCall_ext pr ki xIndexByte hi
  by_cases hq : ∃ r, l = 34 :: r
  · obtain ⟨r, hlr⟩ := hq
    have hx0 : ∀ g', gPre [.s l, .s [34]] g' = some (.b true, g') := fun g' => by rw [gPre_eq, hlr]; simp
    have hR : cutF l = tlF [] r := by rw [hlr]; simp [cutF]
    have hll : l.length = r.length + 1 := by rw [hlr]; rfl
    have hd : l.drop 1 = r := by rw [hlr]; rfl
    have h1l : (1 : Int) ≤ (l.length : Int) := by omega
    rw [hR]
    simp only [↓STEP, SB, looked, behind, lookOk, AAct.kind, AOp.kind, wpRes, evRes, resV, AOp.ev, bin, binI, binS, shiftI, eqV, un, bound, boundO, fill, fillRows, aggOf, keyEq, findKey, putKey, V.cells, V.flat, byteOf, bytesOf, rdOf, H.wr, H.kOf, splice, isYl, ↓reduceIte, Nat.reduceEqDiff, Nat.reduceLeDiff, Nat.reduceLT, Nat.reduceAdd, Nat.reduceSub, Nat.reduceMul, Int.reduceLT, Int.reduceLE, Int.reduceEq, Int.reduceAdd, Int.reduceSub, Int.reduceMul, Int.reduceNeg, Int.reduceToNat, reduceCtorEq, hc0, hx0, h1l, List.take_length, hd]
    refine wpA_loop_inv (CutLoop h l.length (tlF [] r)) ?_ (m := r.length) ?_
    · rintro m t g ⟨s, a, n, c, ex, acc, rfl, hN, e0, e5, o, hT⟩
      have hnl : n = acc.length := o.sl.1.symm
      cases hs : s with
      | nil =>
        subst hs
        rw [tlF_nil] at hT
        rw [← hT]
        simp only [↓STEP, SB, looked, behind, lookOk, AAct.kind, AOp.kind, wpRes, evRes, resV, AOp.ev, bin, binI, binS, shiftI, eqV, un, bound, boundO, fill, fillRows, aggOf, keyEq, findKey, putKey, V.cells, V.flat, byteOf, bytesOf, rdOf, H.wr, H.kOf, splice, isYl, ↓reduceIte, Nat.reduceEqDiff, Nat.reduceLeDiff, Nat.reduceLT, Nat.reduceAdd, Nat.reduceSub, Nat.reduceMul, Int.reduceLT, Int.reduceLE, Int.reduceEq, Int.reduceAdd, Int.reduceSub, Int.reduceMul, Int.reduceNeg, Int.reduceToNat, reduceCtorEq, e0, e5]
        exact Abs.out rfl rfl o.kept
      | cons x s1 =>
        rw [hs, tlF_cons] at hT
        have hx := x.toNat_lt
        have hsl : s.length = s1.length + 1 := by rw [hs]; rfl
        have hsd : s.drop 1 = s1 := by rw [hs]; rfl
        have hs0 : s[0]? = some x := by rw [hs]; rfl
        have hsn : ¬ s = [] := by rw [hs]; simp
        have h1s : (1 : Int) ≤ (s.length : Int) := by omega
        rw [← hs]
        clear hs
        by_cases q34 : x = 34
        · subst q34
          rw [if_pos rfl] at hT
          rw [← hT]
          have e34 : ((34 : UInt8).toNat : Int) = 34 := rfl
          simp only [↓STEP, SB, looked, behind, lookOk, AAct.kind, AOp.kind, wpRes, evRes, resV, AOp.ev, bin, binI, binS, shiftI, eqV, un, bound, boundO, fill, fillRows, aggOf, keyEq, findKey, putKey, V.cells, V.flat, byteOf, bytesOf, rdOf, H.wr, H.kOf, splice, isYl, ↓reduceIte, Nat.reduceEqDiff, Nat.reduceLeDiff, Nat.reduceLT, Nat.reduceAdd, Nat.reduceSub, Nat.reduceMul, Int.reduceLT, Int.reduceLE, Int.reduceEq, Int.reduceAdd, Int.reduceSub, Int.reduceMul, Int.reduceNeg, Int.reduceToNat, reduceCtorEq, e0, e5, hsn, hs0, e34, h1s, List.take_length, hsd, o.sl.bseg]
          exact Abs.out rfl rfl o.kept
        · have n34 : ¬ (x.toNat : Int) = 34 := fun hh => q34 (UInt8.toNat_inj.1 (by show x.toNat = 34; omega))
          rw [if_neg q34] at hT
          have finish : ∀ (t' : Tm) (g' : H) (s' acc' : List UInt8), s'.length < s.length → acc'.length + s'.length ≤ l.length → t'.v 0 = .s s' → (∃ a n c ex, t'.v 5 = .sl a n c ex ∧ OutB h g' a n c acc') → tlF acc' s' = tlF [] r → ∃ m', m' < s.length ∧ CutLoop h l.length (tlF [] r) m' t' g' := by
            rintro t' g' s' acc' q1 q2 q3 ⟨a', n', c', ex', q6, q7⟩ q8
            exact ⟨_, q1, s', a', n', c', ex', acc', rfl, q2, q3, q6, q7, q8⟩
          by_cases hpl : plainB x = true
          · rw [if_pos hpl] at hT
            have hxp : ∀ g', gPl [.i .u8 (x.toNat : Int)] g' = some (.b true, g') := fun g' => by rw [gPl_eq, hpl]
            obtain ⟨a', c', ex', g', e1, eb, o'⟩ := o.app1b (.bytes [x] false) ex x (by omega)
            have hcu : (x.toNat : Int) < 256 := by omega
            simp only [↓STEP, SB, looked, behind, lookOk, AAct.kind, AOp.kind, wpRes, evRes, resV, AOp.ev, bin, binI, binS, shiftI, eqV, un, bound, boundO, fill, fillRows, aggOf, keyEq, findKey, putKey, V.cells, V.flat, byteOf, bytesOf, rdOf, H.wr, H.kOf, splice, isYl, ↓reduceIte, Nat.reduceEqDiff, Nat.reduceLeDiff, Nat.reduceLT, Nat.reduceAdd, Nat.reduceSub, Nat.reduceMul, Int.reduceLT, Int.reduceLE, Int.reduceEq, Int.reduceAdd, Int.reduceSub, Int.reduceMul, Int.reduceNeg, Int.reduceToNat, reduceCtorEq, e0, e5, hsn, hs0, n34, hc1, hxp, hcu, h1s, List.take_length, hsd, UInt8.ofNat_toNat, List.flatten_cons, List.flatten_nil, bseg_tmp1, e1, eb]
            exact finish _ _ s1 (acc ++ [x]) (by omega) (by simp; omega) (by simp [v_pd]) ⟨_, _, _, _, by simp [v_pd]; first | rfl | exact ⟨rfl, rfl, rfl, rfl⟩, o'⟩ hT
          · have hpl' : plainB x = false := by simpa using hpl
            rw [if_neg hpl] at hT
            have hxp : ∀ g', gPl [.i .u8 (x.toNat : Int)] g' = some (.b false, g') := fun g' => by rw [gPl_eq, hpl']
            by_cases q92 : x = 92
            · rw [if_pos q92] at hT
              have e92 : decide (¬ (x.toNat : Int) = 92) = false := by rw [q92]; decide
              by_cases h3 : (s.length : Int) < 3
              · have hE : tlE acc s1 = none := by
                  rcases s1 with _ | ⟨y, _ | ⟨z, s2⟩⟩
                  · rfl
                  · rfl
                  · simp at hsl; omega
                rw [hE] at hT
                rw [← hT]
                simp only [↓STEP, SB, looked, behind, lookOk, AAct.kind, AOp.kind, wpRes, evRes, resV, AOp.ev, bin, binI, binS, shiftI, eqV, un, bound, boundO, fill, fillRows, aggOf, keyEq, findKey, putKey, V.cells, V.flat, byteOf, bytesOf, rdOf, H.wr, H.kOf, splice, isYl, ↓reduceIte, Nat.reduceEqDiff, Nat.reduceLeDiff, Nat.reduceLT, Nat.reduceAdd, Nat.reduceSub, Nat.reduceMul, Int.reduceLT, Int.reduceLE, Int.reduceEq, Int.reduceAdd, Int.reduceSub, Int.reduceMul, Int.reduceNeg, Int.reduceToNat, reduceCtorEq, e0, e5, hsn, hs0, n34, hc1, hxp, e92, h3]
                exact Abs.out rfl rfl o.kept
              · obtain ⟨y, z, s2, rfl⟩ : ∃ y z s2, s1 = y :: z :: s2 := by
                  rcases s1 with _ | ⟨y, _ | ⟨z, s2⟩⟩
                  · simp at hsl; omega
                  · simp at hsl; omega
                  · exact ⟨y, z, s2, rfl⟩
                simp only [List.length_cons] at hsl
                have hs1 : s[1]? = some y := by rw [show s[1]? = (s.drop 1)[0]? by rw [List.getElem?_drop], hsd]; rfl
                have hs2 : s[2]? = some z := by rw [show s[2]? = (s.drop 1)[1]? by rw [List.getElem?_drop], hsd]; rfl
                have hsd3 : s.drop 3 = s2 := by rw [show s.drop 3 = (s.drop 1).drop 2 by rw [List.drop_drop], hsd]; rfl
                have h3s : (3 : Int) ≤ (s.length : Int) := by omega
                have xy : ∀ g', xIndexByte [.s hexL, .i .u8 (y.toNat : Int)] g' = some (.i .i64 (fIdx hexL y), g') := fun g' => xIndexByte_eq _ _ _
                have xz : ∀ g', xIndexByte [.s hexL, .i .u8 (z.toNat : Int)] g' = some (.i .i64 (fIdx hexL z), g') := fun g' => xIndexByte_eq _ _ _
                have hE : tlE acc (y :: z :: s2) = (match hexV y, hexV z with
                  | some a, some b => if plainB (UInt8.ofNat (16 * a + b)) = true then none else tlF (acc ++ [UInt8.ofNat (16 * a + b)]) s2
                  | _, _ => none) := rfl
                rw [hE] at hT
                cases hy : hexV y with
                | none =>
                  rw [hy] at hT
                  rw [← hT]
                  have fy := fIdx_hex_none hy
                  simp only [↓STEP, SB, looked, behind, lookOk, AAct.kind, AOp.kind, wpRes, evRes, resV, AOp.ev, bin, binI, binS, shiftI, eqV, un, bound, boundO, fill, fillRows, aggOf, keyEq, findKey, putKey, V.cells, V.flat, byteOf, bytesOf, rdOf, H.wr, H.kOf, splice, isYl, ↓reduceIte, Nat.reduceEqDiff, Nat.reduceLeDiff, Nat.reduceLT, Nat.reduceAdd, Nat.reduceSub, Nat.reduceMul, Int.reduceLT, Int.reduceLE, Int.reduceEq, Int.reduceAdd, Int.reduceSub, Int.reduceMul, Int.reduceNeg, Int.reduceToNat, reduceCtorEq, e0, e5, hsn, hs0, n34, hc1, hxp, e92, h3, hs1, hs2, hc2, xy, xz, fy]
                  exact Abs.out rfl rfl o.kept
                | some a1 =>
                  have fy := fIdx_hex_some hy
                  have ha := hexV_lt hy
                  have na : ¬ (a1 : Int) < 0 := by omega
                  cases hz : hexV z with
                  | none =>
                    rw [hy, hz] at hT
                    rw [← hT]
                    have fz := fIdx_hex_none hz
                    simp only [↓STEP, SB, looked, behind, lookOk, AAct.kind, AOp.kind, wpRes, evRes, resV, AOp.ev, bin, binI, binS, shiftI, eqV, un, bound, boundO, fill, fillRows, aggOf, keyEq, findKey, putKey, V.cells, V.flat, byteOf, bytesOf, rdOf, H.wr, H.kOf, splice, isYl, ↓reduceIte, Nat.reduceEqDiff, Nat.reduceLeDiff, Nat.reduceLT, Nat.reduceAdd, Nat.reduceSub, Nat.reduceMul, Int.reduceLT, Int.reduceLE, Int.reduceEq, Int.reduceAdd, Int.reduceSub, Int.reduceMul, Int.reduceNeg, Int.reduceToNat, reduceCtorEq, e0, e5, hsn, hs0, n34, hc1, hxp, e92, h3, hs1, hs2, hc2, xy, xz, fy, fz, na]
                    exact Abs.out rfl rfl o.kept
                  | some b1 =>
                    have fz := fIdx_hex_some hz
                    have hb := hexV_lt hz
                    have nb : ¬ (b1 : Int) < 0 := by omega
                    rw [hy, hz] at hT
                    simp only at hT
                    have hmin : Nat.min 4 Go.IntKind.i64.bits = 4 := by decide
                    have p16 : Go.IntKind.wrap .i64 ((a1 : Int) * 16) = ((a1 * 16 : Nat) : Int) := wrap_nat (a1 * 16) (by omega)
                    have hor : bitsOp .or .i64 ((a1 * 16 : Nat) : Int) (b1 : Int) = some ((16 * a1 + b1 : Nat) : Int) := by
                      rw [bits_or _ _ (by omega) (by omega), or_low a1 b1 4 (by omega)]; congr 3; omega
                    have wu := wrap_u8c (16 * a1 + b1) (by omega)
                    have hcn : (UInt8.ofNat (16 * a1 + b1)).toNat = 16 * a1 + b1 := u8_of (by omega)
                    have hcu : ((16 * a1 + b1 : Nat) : Int) < 256 := by omega
                    have hxq : ∀ g', gPl [.i .u8 ((16 * a1 + b1 : Nat) : Int)] g' = some (.b (plainB (UInt8.ofNat (16 * a1 + b1))), g') := fun g' => by rw [← gPl_eq, hcn]
                    by_cases hpq : plainB (UInt8.ofNat (16 * a1 + b1)) = true
                    · rw [if_pos hpq] at hT
                      rw [← hT]
                      rw [hpq] at hxq
                      simp only [↓STEP, SB, looked, behind, lookOk, AAct.kind, AOp.kind, wpRes, evRes, resV, AOp.ev, bin, binI, binS, shiftI, eqV, un, bound, boundO, fill, fillRows, aggOf, keyEq, findKey, putKey, V.cells, V.flat, byteOf, bytesOf, rdOf, H.wr, H.kOf, splice, isYl, ↓reduceIte, Nat.reduceEqDiff, Nat.reduceLeDiff, Nat.reduceLT, Nat.reduceAdd, Nat.reduceSub, Nat.reduceMul, Int.reduceLT, Int.reduceLE, Int.reduceEq, Int.reduceAdd, Int.reduceSub, Int.reduceMul, Int.reduceNeg, Int.reduceToNat, reduceCtorEq, e0, e5, hsn, hs0, n34, hc1, hxp, e92, h3, hs1, hs2, hc2, xy, xz, fy, fz, na, nb, hmin, Int.reducePow, p16, hor, wu, hxq]
                      exact Abs.out rfl rfl o.kept
                    · rw [if_neg hpq] at hT
                      have hpq' : plainB (UInt8.ofNat (16 * a1 + b1)) = false := by simpa using hpq
                      rw [hpq'] at hxq
                      obtain ⟨a', c', ex', g', e1, eb, o'⟩ := o.app1b (.bytes [UInt8.ofNat (16 * a1 + b1)] false) ex (UInt8.ofNat (16 * a1 + b1)) (by omega)
                      simp only [↓STEP, SB, looked, behind, lookOk, AAct.kind, AOp.kind, wpRes, evRes, resV, AOp.ev, bin, binI, binS, shiftI, eqV, un, bound, boundO, fill, fillRows, aggOf, keyEq, findKey, putKey, V.cells, V.flat, byteOf, bytesOf, rdOf, H.wr, H.kOf, splice, isYl, ↓reduceIte, Nat.reduceEqDiff, Nat.reduceLeDiff, Nat.reduceLT, Nat.reduceAdd, Nat.reduceSub, Nat.reduceMul, Int.reduceLT, Int.reduceLE, Int.reduceEq, Int.reduceAdd, Int.reduceSub, Int.reduceMul, Int.reduceNeg, Int.reduceToNat, reduceCtorEq, e0, e5, hsn, hs0, n34, hc1, hxp, e92, h3, hs1, hs2, hc2, xy, xz, fy, fz, na, nb, hmin, Int.reducePow, p16, hor, wu, hxq, hcu, h3s, List.take_length, hsd3, List.flatten_cons, List.flatten_nil, bseg_tmp1, e1, eb]
                      exact finish _ _ s2 (acc ++ [UInt8.ofNat (16 * a1 + b1)]) (by omega) (by simp; omega) (by simp [v_pd]) ⟨_, _, _, _, by simp [v_pd]; first | rfl | exact ⟨rfl, rfl, rfl, rfl⟩, o'⟩ hT
            · rw [if_neg q92] at hT
              rw [← hT]
              have n92 : ¬ (x.toNat : Int) = 92 := fun hh => q92 (UInt8.toNat_inj.1 (by show x.toNat = 92; omega))
              simp only [↓STEP, SB, looked, behind, lookOk, AAct.kind, AOp.kind, wpRes, evRes, resV, AOp.ev, bin, binI, binS, shiftI, eqV, un, bound, boundO, fill, fillRows, aggOf, keyEq, findKey, putKey, V.cells, V.flat, byteOf, bytesOf, rdOf, H.wr, H.kOf, splice, isYl, ↓reduceIte, Nat.reduceEqDiff, Nat.reduceLeDiff, Nat.reduceLT, Nat.reduceAdd, Nat.reduceSub, Nat.reduceMul, Int.reduceLT, Int.reduceLE, Int.reduceEq, Int.reduceAdd, Int.reduceSub, Int.reduceMul, Int.reduceNeg, Int.reduceToNat, reduceCtorEq, e0, e5, hsn, hs0, n34, hc1, hxp, n92]
              exact Abs.out rfl rfl o.kept
    · exact ⟨r, none, 0, 0, true, [], rfl, by simp; omega, by simp [v_pd], by simp [v_pd], OutB.nil h, rfl⟩
  · have hx0 : ∀ g', gPre [.s l, .s [34]] g' = some (.b false, g') := fun g' => by
      rw [gPre_eq]
      have : ¬ ([34].length ≤ l.length ∧ l.take [34].length = [34]) := by
        rintro ⟨h1, h2⟩
        cases l with
        | nil => simp at h1
        | cons c r => simp at h2; subst h2; exact hq ⟨r, rfl⟩
      exact congrArg (fun b => some (V.b b, g')) (Bool.eq_false_iff.2 fun hd => this (of_decide_eq_true hd))
    have hR : cutF l = none := by
      unfold cutF
      split
      · rename_i c r
        rw [if_neg (by rintro rfl; exact hq ⟨r, rfl⟩)]
      · rfl
    simp only [↓STEP, SB, looked, behind, lookOk, AAct.kind, AOp.kind, wpRes, evRes, resV, AOp.ev, bin, binI, binS, shiftI, eqV, un, bound, boundO, fill, fillRows, aggOf, keyEq, findKey, putKey, V.cells, V.flat, byteOf, bytesOf, rdOf, H.wr, H.kOf, splice, isYl, ↓reduceIte, Nat.reduceEqDiff, Nat.reduceLeDiff, Nat.reduceLT, Nat.reduceAdd, Nat.reduceSub, Nat.reduceMul, Int.reduceLT, Int.reduceLE, Int.reduceEq, Int.reduceAdd, Int.reduceSub, Int.reduceMul, Int.reduceNeg, Int.reduceToNat, reduceCtorEq, hc0, hx0, hR]
    exact Abs.out rfl rfl Kept.refl
end Am
