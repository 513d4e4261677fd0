/- Steps of a script: how they lie; those that are not too many. -/
import Derived.Test.YtjcchmmmbegamaaDoorScr6
namespace Am
set_option linter.unusedVariables false
set_option linter.unusedSimpArgs false
set_option maxRecDepth 20000
set_option maxHeartbeats 4000000
variable {pr : Prog}

/-- A step. -/
structure Sp where
  k : Int
  r : Int
  i : Int
  n : Int
  fs : List Fd
  d : List UInt8
  e : Bool
  c1 : Int
  c2 : Int
  c3 : Int
  c4 : Int
  c5 : Int
def spRow (h : H) (s : Sp) (row : List V) : Prop :=
  ∃ p fn fc fex q dn dc dex, row = [.i .i64 s.k, .i .i64 s.r, .i .i64 s.i, .i .i64 s.n, .sl p fn fc fex, .sl q dn dc dex, .b s.e, .i .i64 s.c1, .i .i64 s.c2, .i .i64 s.c3, .i .i64 s.c4, .i .i64 s.c5] ∧ rowsIn h 3 p fn (s.fs.map Fd.row) ∧ rdB h q dn = some s.d
def stepsIn (h : H) (p : Option (Nat × Nat)) (n : Nat) (ss : List Sp) : Prop :=
  ss.length = n ∧ (n = 0 ∨ ∃ b r all ro, p = some (b, r) ∧ b < h.nx ∧ h.get b = some (.rows 12 all ro) ∧ ∀ i s, ss[i]? = some s → ∃ row, all[r + i]? = some row ∧ spRow h s row)
theorem spRow_kept {h g : H} {s : Sp} {row : List V} (hr : spRow h s row) (hk : Kept h g) : spRow g s row := by
  obtain ⟨p, fn, fc, fex, q, dn, dc, dex, h1, h2, h3⟩ := hr
  exact ⟨p, fn, fc, fex, q, dn, dc, dex, h1, rowsIn_kept h2 hk, rdB_kept h3 hk⟩
theorem stepsIn_kept {h g : H} {p : Option (Nat × Nat)} {n : Nat} {ss : List Sp} (hr : stepsIn h p n ss) (hk : Kept h g) : stepsIn g p n ss := by
  obtain ⟨h1, h2⟩ := hr
  refine ⟨h1, ?_⟩
  rcases h2 with h2 | ⟨b, r, all, ro, e, hb, hg, hat⟩
  · exact .inl h2
  · refine .inr ⟨b, r, all, ro, e, Nat.lt_of_lt_of_le hb hk.1, by rw [hk.2 b hb]; exact hg, fun i s hi => ?_⟩
    obtain ⟨row, h3, h4⟩ := hat i s hi
    exact ⟨row, h3, spRow_kept h4 hk⟩
def wtS (s : Sp) : Nat := s.d.length + 1 + totF s.fs
def sumW (ss : List Sp) : Nat := (ss.map wtS).sum
def fewN : Nat → List Sp → Nat
  | _, [] => 0
  | w, s :: r => if 50000 < w + wtS s then 0 else fewN (w + wtS s) r + 1
theorem fewN_le : ∀ (w : Nat) (ss : List Sp), fewN w ss ≤ ss.length
  | _, [] => Nat.le_refl _
  | w, s :: r => by
    rw [fewN]
    split
    · exact Nat.zero_le _
    · have := fewN_le (w + wtS s) r; simp; omega
theorem sumW_take {ss : List Sp} {i : Nat} (hi : i < ss.length) : sumW (ss.take (i + 1)) = sumW (ss.take i) + wtS ss[i] := by
  unfold sumW
  rw [List.take_add_one, List.getElem?_eq_getElem hi, List.map_append, List.sum_append]; simp
theorem fewN_sum : ∀ (w : Nat) (ss : List Sp), w ≤ 50000 → w + sumW (ss.take (fewN w ss)) ≤ 50000
  | w, [], h => by simpa [fewN, sumW] using h
  | w, s :: r, h => by
    rw [fewN]
    split
    · simpa [sumW] using h
    · have := fewN_sum (w + wtS s) r (by omega)
      rw [List.take_succ_cons]
      simp only [sumW, List.map_cons, List.sum_cons] at this ⊢
      omega
theorem fewN_at : ∀ (ss : List Sp) (w i : Nat), i ≤ ss.length → (∀ j, j ≤ i → w + sumW (ss.take j) ≤ 50000) → fewN w ss = i + fewN (w + sumW (ss.take i)) (ss.drop i)
  | ss, w, 0, _, _ => by simp [sumW]
  | [], w, i + 1, h, _ => by simp at h
  | s :: r, w, i + 1, h, hj => by
    have h1 := hj 1 (by omega)
    simp [sumW] at h1
    rw [fewN, if_neg (by omega), fewN_at r (w + wtS s) i (by simpa using h) fun j hji => ?_]
    · rw [List.take_succ_cons, List.drop_succ_cons]
      simp only [sumW, List.map_cons, List.sum_cons]
      rw [Nat.add_assoc w]; omega
    · have := hj (j + 1) (by omega)
      rw [List.take_succ_cons] at this
      simp only [sumW, List.map_cons, List.sum_cons] at this ⊢
      omega
theorem totF_snoc {fs : List Fd} {j : Nat} (hj : j < fs.length) : totF (fs.take (j + 1)) = totF (fs.take j) + (fs[j].n.length + fs[j].v.length + 1) := by
  unfold totF
  rw [List.take_add_one, List.getElem?_eq_getElem hj, List.map_append, List.sum_append]; simp

theorem sumW_mono : ∀ (ss : List Sp) (i : Nat), sumW (ss.take i) ≤ sumW ss
  | [], i => by simp
  | s :: r, 0 => by simp [sumW]
  | s :: r, i + 1 => by
    have := sumW_mono r i
    rw [List.take_succ_cons]
    simp only [sumW, List.map_cons, List.sum_cons] at this ⊢
    omega
theorem len_sumW : ∀ ss : List Sp, ss.length ≤ sumW ss
  | [] => Nat.le_refl _
  | s :: r => by
    have := len_sumW r
    have h1 : 1 ≤ wtS s := by unfold wtS; omega
    simp only [sumW, List.map_cons, List.sum_cons, List.length_cons] at this ⊢
    omega
def FewLoop (h : H) (ss : List Sp) (x : V) (m : Nat) (t : Tm) (g : H) : Prop :=
  ∃ i : Nat, m = ss.length - i ∧ i ≤ ss.length ∧ t.v 4 = .i .i64 (i : Nat) ∧ t.v 0 = x ∧ t.v 3 = .i .i64 (sumW (ss.take i) : Nat) ∧ (∀ j, j ≤ i → sumW (ss.take j) ≤ 50000) ∧ g = h
def FewIn (h : H) (i w : Nat) (fs : List Fd) (x : V) (m : Nat) (t : Tm) (g : H) : Prop :=
  ∃ j : Nat, m = fs.length - j ∧ j ≤ fs.length ∧ t.v 5 = .i .i64 (j : Nat) ∧ t.v 4 = .i .i64 (i : Nat) ∧ t.v 0 = x ∧ t.v 3 = .i .i64 (w + totF (fs.take j) : Nat) ∧ g = h
theorem few_runs {k : Nat} (hA : pr.ext k = none) (hfn : pr.fn k = some c_isthmuslaw23_few) {h : H} {p : Option (Nat × Nat)} {n c : Nat} {ex : Bool} {ss : List Sp} (hr : stepsIn h p n ss) (hw : sumW ss ≤ 1000000000) (hc : n ≤ c) :
    Runs pr (.fn k) [.sl p n c ex] h (fun v g => v = .sl p (fewN 0 ss) c ex ∧ g = h) := by
  refine runs_of_wpF hA hfn ?_
  obtain ⟨hlen, hrow⟩ := hr
  subst hlen
  unfold wpF c_isthmuslaw23_few
  refine ⟨by simp, ?_⟩
  simp only [↓STEP, SB, looked, behind, lookOk, AAct.kind, AOp.kind, wpRes, evRes, resV, AOp.ev, bin, binI, binS, shiftI, eqV, un, bound, boundO, fill, fillRows, aggOf, keyEq, findKey, putKey, V.cells, V.flat, byteOf, bytesOf, rdOf, H.wr, H.kOf, splice, isYl, ↓reduceIte, Nat.reduceEqDiff, Nat.reduceLeDiff, Nat.reduceLT, Nat.reduceAdd, Nat.reduceSub, Nat.reduceMul, Int.reduceLT, Int.reduceLE, Int.reduceEq, Int.reduceAdd, Int.reduceSub, Int.reduceMul, Int.reduceNeg, Int.reduceToNat, reduceCtorEq]
  refine wpA_loop_inv (FewLoop h ss (.sl p ss.length c ex)) ?_ (m := ss.length) ?_
  · rintro m t g ⟨i, rfl, hi, e4, e0, e3, hall, rfl⟩
    by_cases hlt : (i : Int) < ss.length
    · have hil : i < ss.length := by omega
      obtain ⟨b, r, all, ro, rfl, hbn, hg, hat⟩ := hrow.resolve_left (by omega)
      obtain ⟨row, h1, q, fn, fc, fex, dq, dn, dc, dex, rfl, hf, hd⟩ := hat i ss[i] (List.getElem?_eq_getElem hil)
      have hst := sumW_take hil
      have hNf : 50000 < sumW (ss.take i) + wtS ss[i] → fewN 0 ss = i := fun hb => by
        rw [fewN_at ss 0 i (by omega) (fun j hj => by rw [Nat.zero_add]; exact hall j hj), List.drop_eq_getElem_cons hil, fewN, if_pos (by omega)]
        rfl
      generalize ss[i] = s at *
      have hdl := rdB_len hd
      have hsi := hall i (Nat.le_refl _)
      have hmo := sumW_mono ss (i + 1)
      have hls := len_sumW ss
      have hlf := totF_len s.fs
      have hws : wtS s = dn + 1 + totF s.fs := by unfold wtS; rw [hdl]
      have w1 : Go.IntKind.wrap .i64 ((dn : Int) + 1) = ((dn + 1 : Nat) : Int) := wrap_i64 (by omega) (by omega)
      have w2 : Go.IntKind.wrap .i64 (((sumW (ss.take i) : Nat) : Int) + ((dn + 1 : Nat) : Int)) = ((sumW (ss.take i) + (dn + 1) : Nat) : Int) := wrap_i64 (by omega) (by omega)
      have wi : Go.IntKind.wrap .i64 ((i : Int) + 1) = ((i + 1 : Nat) : Int) := wrap_i64 (by omega) (by omega)
      simp only [↓STEP, SB, looked, behind, lookOk, AAct.kind, AOp.kind, wpRes, evRes, resV, AOp.ev, bin, binI, binS, shiftI, eqV, un, bound, boundO, fill, fillRows, aggOf, keyEq, findKey, putKey, V.cells, V.flat, byteOf, bytesOf, rdOf, H.wr, H.kOf, splice, isYl, ↓reduceIte, Nat.reduceEqDiff, Nat.reduceLeDiff, Nat.reduceLT, Nat.reduceAdd, Nat.reduceSub, Nat.reduceMul, Int.reduceLT, Int.reduceLE, Int.reduceEq, Int.reduceAdd, Int.reduceSub, Int.reduceMul, Int.reduceNeg, Int.reduceToNat, reduceCtorEq, e4, e0, e3, hlt, hg, h1, w1, w2]
      refine wpA_loop_inv (FewIn g i (sumW (ss.take i) + (dn + 1)) s.fs (.sl (some (b, r)) ss.length c ex)) ?_ (m := s.fs.length) ?_
      · rintro m t g' ⟨j, rfl, hj, e5, e4, e0, e3, rfl⟩
        obtain ⟨hfl, hfr⟩ := hf
        rw [List.length_map] at hfl
        have htm := totF_take s.fs j
        by_cases hjt : (j : Int) < fn
        · have hjl : j < s.fs.length := by omega
          obtain ⟨bf, rf, allf, rof, rfl, hbf, hgf, hatf⟩ := hfr.resolve_left (by omega)
          have h2 : allf[rf + j]? = some s.fs[j].row := hatf j _ (by rw [List.getElem?_map, List.getElem?_eq_getElem hjl]; rfl)
          have hsn := totF_snoc hjl
          have htm1 := totF_take s.fs (j + 1)
          generalize s.fs[j] = f at *
          obtain ⟨f1, f2, f3⟩ := f
          simp only [Fd.row] at h2
          simp only at hsn
          have v1 : Go.IntKind.wrap .i64 ((f1.length : Int) + (f2.length : Int)) = ((f1.length + f2.length : Nat) : Int) := wrap_i64 (by omega) (by omega)
          have v2 : Go.IntKind.wrap .i64 (((f1.length + f2.length : Nat) : Int) + 1) = ((f1.length + f2.length + 1 : Nat) : Int) := wrap_i64 (by omega) (by omega)
          have v3 : Go.IntKind.wrap .i64 (((sumW (ss.take i) + (dn + 1) + totF (s.fs.take j) : Nat) : Int) + ((f1.length + f2.length + 1 : Nat) : Int)) = ((sumW (ss.take i) + (dn + 1) + totF (s.fs.take (j + 1)) : Nat) : Int) := by rw [hsn, wrap_i64 (by omega) (by omega)]; omega
          have wj : Go.IntKind.wrap .i64 ((j : Int) + 1) = ((j + 1 : Nat) : Int) := wrap_i64 (by omega) (by omega)
          have fin : ∀ (t' : Tm), t'.v 5 = .i .i64 ((j + 1 : Nat) : Int) → t'.v 4 = t.v 4 → t'.v 0 = t.v 0 → t'.v 3 = .i .i64 ((sumW (ss.take i) + (dn + 1) + totF (s.fs.take (j + 1)) : Nat) : Int) → ∃ m', m' < s.fs.length - j ∧ FewIn g' i (sumW (ss.take i) + (dn + 1)) s.fs (.sl (some (b, r)) ss.length c ex) m' t' g' :=
            fun t' q1 q2 q3 q4 => ⟨_, by omega, j + 1, rfl, by omega, q1, by rw [q2, e4], by rw [q3, e0], q4, rfl⟩
          generalize sumW (ss.take i) + (dn + 1) + totF (s.fs.take j) = N3 at e3 v3
          generalize sumW (ss.take i) + (dn + 1) + totF (s.fs.take (j + 1)) = N5 at v3 fin
          generalize f1.length + f2.length + 1 = N4 at v2 v3
          generalize f1.length + f2.length = N2 at v1 v2
          simp only [↓STEP, SB, looked, behind, lookOk, AAct.kind, AOp.kind, wpRes, evRes, resV, AOp.ev, bin, binI, binS, shiftI, eqV, un, bound, boundO, fill, fillRows, aggOf, keyEq, findKey, putKey, V.cells, V.flat, byteOf, bytesOf, rdOf, H.wr, H.kOf, splice, isYl, ↓reduceIte, Nat.reduceEqDiff, Nat.reduceLeDiff, Nat.reduceLT, Nat.reduceAdd, Nat.reduceSub, Nat.reduceMul, Int.reduceLT, Int.reduceLE, Int.reduceEq, Int.reduceAdd, Int.reduceSub, Int.reduceMul, Int.reduceNeg, Int.reduceToNat, reduceCtorEq, e4, e5, e0, e3, hlt, hg, h1, hjt, hgf, h2, v1, v2, v3, wj]
          exact fin _ (by simp [v_pd, v_pd0]) (by simp [v_pd, v_pd0]) (by simp [v_pd, v_pd0]) (by simp [v_pd, v_pd0])
        · have hjl : j = s.fs.length := by omega
          subst hjl
          rw [List.take_length] at e3
          by_cases hbig : (50000 : Int) < ((sumW (ss.take i) + (dn + 1) + totF s.fs : Nat) : Int)
          · have hN := hNf (by omega)
            generalize sumW (ss.take i) + (dn + 1) + totF s.fs = N3 at e3 hbig
            have hic : (i : Int) ≤ (c : Int) := by omega
            simp only [↓STEP, SB, looked, behind, lookOk, AAct.kind, AOp.kind, wpRes, evRes, resV, AOp.ev, bin, binI, binS, shiftI, eqV, un, bound, boundO, fill, fillRows, aggOf, keyEq, findKey, putKey, V.cells, V.flat, byteOf, bytesOf, rdOf, H.wr, H.kOf, splice, isYl, ↓reduceIte, Nat.reduceEqDiff, Nat.reduceLeDiff, Nat.reduceLT, Nat.reduceAdd, Nat.reduceSub, Nat.reduceMul, Int.reduceLT, Int.reduceLE, Int.reduceEq, Int.reduceAdd, Int.reduceSub, Int.reduceMul, Int.reduceNeg, Int.reduceToNat, reduceCtorEq, e4, e5, e0, e3, hlt, hg, h1, hjt, hbig, hic]
            simp [hN]
          · have fin : ∀ (t' : Tm), t'.v 4 = .i .i64 ((i + 1 : Nat) : Int) → t'.v 0 = t.v 0 → t'.v 3 = t.v 3 → ∃ m', m' < ss.length - i ∧ FewLoop g' ss (.sl (some (b, r)) ss.length c ex) m' t' g' :=
              fun t' q1 q2 q3 => ⟨_, by omega, i + 1, rfl, by omega, q1, by rw [q2, e0], by rw [q3, e3]; congr 2; omega, fun j hj => by
                by_cases hji : j = i + 1
                · subst hji; omega
                · exact hall j (by omega), rfl⟩
            generalize sumW (ss.take i) + (dn + 1) + totF s.fs = N3 at e3 hbig
            simp only [↓STEP, SB, looked, behind, lookOk, AAct.kind, AOp.kind, wpRes, evRes, resV, AOp.ev, bin, binI, binS, shiftI, eqV, un, bound, boundO, fill, fillRows, aggOf, keyEq, findKey, putKey, V.cells, V.flat, byteOf, bytesOf, rdOf, H.wr, H.kOf, splice, isYl, ↓reduceIte, Nat.reduceEqDiff, Nat.reduceLeDiff, Nat.reduceLT, Nat.reduceAdd, Nat.reduceSub, Nat.reduceMul, Int.reduceLT, Int.reduceLE, Int.reduceEq, Int.reduceAdd, Int.reduceSub, Int.reduceMul, Int.reduceNeg, Int.reduceToNat, reduceCtorEq, e4, e5, e0, e3, hlt, hg, h1, hjt, hbig, wi]
            exact fin _ (by simp [v_pd, v_pd0]) (by simp [v_pd, v_pd0]) (by simp [v_pd, v_pd0, e3])
      · exact ⟨0, by simp, Nat.zero_le _, by simp [v_pd, v_pd0], by simp [v_pd, v_pd0, e4], by simp [v_pd, v_pd0, e0], by simp [v_pd, v_pd0, totF], rfl⟩
    · have hil : i = ss.length := by omega
      subst hil
      have hN : fewN 0 ss = ss.length := by
        rw [fewN_at ss 0 ss.length (Nat.le_refl _) (fun j hj => by rw [Nat.zero_add]; exact hall j hj), List.drop_length]; rfl
      simp only [↓STEP, SB, looked, behind, lookOk, AAct.kind, AOp.kind, wpRes, evRes, resV, AOp.ev, bin, binI, binS, shiftI, eqV, un, bound, boundO, fill, fillRows, aggOf, keyEq, findKey, putKey, V.cells, V.flat, byteOf, bytesOf, rdOf, H.wr, H.kOf, splice, isYl, ↓reduceIte, Nat.reduceEqDiff, Nat.reduceLeDiff, Nat.reduceLT, Nat.reduceAdd, Nat.reduceSub, Nat.reduceMul, Int.reduceLT, Int.reduceLE, Int.reduceEq, Int.reduceAdd, Int.reduceSub, Int.reduceMul, Int.reduceNeg, Int.reduceToNat, reduceCtorEq, e4, e0, e3, hlt]
      simp [hN]
  · exact ⟨0, rfl, Nat.zero_le _, by simp [v_pd], by simp [v_pd, v_args_cons], by simp [v_pd, sumW], fun j hj => by rw [Nat.le_zero.1 hj]; simp [sumW], rfl⟩
end Am
