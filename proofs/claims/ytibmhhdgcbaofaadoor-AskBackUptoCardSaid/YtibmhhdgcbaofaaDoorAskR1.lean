/- Small functions of the layer 'upgrade' that read: numbers, small letters, blanks off the front. -/
import Derived.Test.YtibmhhdgcbaofaaDoorAskA4
import Derived.Test.YtibmhhdgcbaofaaDoorAskL2
import Derived.Test.YtibmhhdgcbaofaaDoorCodesAll
namespace Am
set_option linter.unusedVariables false
set_option linter.unusedSimpArgs false
set_option maxRecDepth 20000
set_option maxHeartbeats 4000000
variable {pr : Prog}

/-! ### A number of bytes -/
def numB (l : List UInt8) : Nat := l.foldl (fun x b => x * 256 + b.toNat) 0
theorem numB_take {l : List UInt8} {i : Nat} (hi : i < l.length) : numB (l.take (i + 1)) = numB (l.take i) * 256 + l[i].toNat := by
  unfold numB; rw [List.take_succ_eq_append_getElem hi, List.foldl_append]; rfl
theorem numB_lt (l : List UInt8) : ∀ i, i ≤ l.length → numB (l.take i) < 256 ^ i
  | 0, _ => by simp [numB]
  | i + 1, h => by
    have := numB_lt l i (by omega)
    have hc := (l[i]).toNat_lt
    rw [numB_take (by omega), Nat.pow_succ]
    omega
theorem or8g (a b : Nat) (ha : a < 1099511627776) (hb : b < 256) : bitsOp .or .i64 ((a * 256 : Nat) : Int) (b : Int) = some ((a * 256 + b : Nat) : Int) := by
  have := bits_or (a * 256) b (by omega) (by omega)
  rw [show (a * 256) ||| b = a * 256 + b from or_low a b 8 hb] at this
  exact this
def gNum (ys : List V) (h : H) : Option (V × H) :=
  match ys with
  | [.sl a n c ex] => if n ≤ 4 then (rdB h a n).bind fun l => some (.i .i64 (numB l : Nat), h) else none
  | _ => none
theorem gNum_eq {a : Option (Nat × Nat)} {n c : Nat} {ex : Bool} {l : List UInt8} {h : H} (hn : n ≤ 4) (hl : rdB h a n = some l) : gNum [.sl a n c ex] h = some (.i .i64 (numB l : Nat), h) := by
  unfold gNum; simp only [if_pos hn, hl, Option.bind_some]
def NumLoop (h : H) (l : List UInt8) (x : V) (m : Nat) (t : Tm) (g : H) : Prop :=
  ∃ i : Nat, m = l.length - i ∧ i ≤ l.length ∧ t.v 8 = .i .i64 (i : Nat) ∧ t.v 7 = .i .i64 l.length ∧ t.v 6 = x ∧ t.v 3 = .i .i64 (numB (l.take i) : Nat) ∧ g = h
theorem number_ok : OkF pr c_frame_number gNum := by
  intro ys h v h' hg
  unfold gNum at hg
  split at hg
  case h_2 => cases hg
  rename_i a0 n0 c0 ex0
  split at hg
  case isFalse => cases hg
  rename_i hbig
  obtain ⟨l, hl, hg⟩ := Option.bind_eq_some_iff.1 hg
  cases hg
  have hlen := rdB_len hl
  unfold wpF c_frame_number
  refine ⟨by simp, ?_⟩
  simp only [↓STEP, SB, looked, behind, lookOk, AAct.kind, AOp.kind, wpRes, evRes, resV, AOp.ev, bin, binI, binS, shiftI, eqV, un, bound, boundO, fill, fillRows, aggOf, keyEq, findKey, putKey, V.cells, V.flat, byteOf, bytesOf, rdOf, H.wr, H.kOf, splice, isYl, ↓reduceIte, Nat.reduceEqDiff, Nat.reduceLeDiff, Nat.reduceLT, Nat.reduceAdd, Nat.reduceSub, Nat.reduceMul, Int.reduceLT, Int.reduceLE, Int.reduceEq, Int.reduceAdd, Int.reduceSub, Int.reduceMul, Int.reduceNeg, Int.reduceToNat, reduceCtorEq]
  refine wpA_loop_inv (NumLoop h l (.sl a0 n0 c0 ex0)) ?_ (m := l.length) ?_
  · rintro m t g ⟨i, rfl, hi, e8, e7, e6, e3, rfl⟩
    by_cases hlt : (i : Int) < l.length
    · have hil : i < l.length := by omega
      have hc := (l[i]).toNat_lt
      obtain ⟨b, r, bs, ro, rfl, hgt, hle, hl2, hat⟩ := bseg_open (rdB_bseg hl) (by omega)
      have hi0 : (i : Int) < n0 := by omega
      have h1 : bs[r + i]? = some l[i] := (hat i (by omega)).trans (List.getElem?_eq_getElem hil)
      have hwr : Go.IntKind.wrap .i64 ((i : Int) + 1) = (i : Int) + 1 := wrap_i64 (by omega) (by omega)
      have hwc := wrap_nat l[i].toNat (by omega)
      have hlt2 := numB_lt l i hi
      have hp : 256 ^ i ≤ 256 ^ 3 := Nat.pow_le_pow_right (by decide) (by omega)
      have hsuc := numB_take hil
      generalize numB (l.take i) = w at *
      have p8 : Go.IntKind.wrap .i64 ((w : Int) * 256) = ((w * 256 : Nat) : Int) := wrap_nat (w * 256) (by omega)
      have o8 := or8g w l[i].toNat (by omega) (by omega)
      simp only [↓STEP, SB, looked, behind, lookOk, AAct.kind, AOp.kind, wpRes, evRes, resV, AOp.ev, bin, binI, binS, shiftI, eqV, un, bound, boundO, fill, fillRows, aggOf, keyEq, findKey, putKey, V.cells, V.flat, byteOf, bytesOf, rdOf, H.wr, H.kOf, splice, isYl, ↓reduceIte, Nat.reduceEqDiff, Nat.reduceLeDiff, Nat.reduceLT, Nat.reduceAdd, Nat.reduceSub, Nat.reduceMul, Int.reduceLT, Int.reduceLE, Int.reduceEq, Int.reduceAdd, Int.reduceSub, Int.reduceMul, Int.reduceNeg, Int.reduceToNat, reduceCtorEq, e8, e7, e6, e3, hlt, hi0, hgt, h1, hwr, hwc, wlits, nmins, Int.reducePow, p8, o8]
      exact ⟨_, by omega, i + 1, rfl, by omega, by simp [v_pd], by simp [v_pd, e7], by simp [v_pd, e6], by simp [v_pd, hsuc], rfl⟩
    · simp only [↓STEP, SB, looked, behind, lookOk, AAct.kind, AOp.kind, wpRes, evRes, resV, AOp.ev, bin, binI, binS, shiftI, eqV, un, bound, boundO, fill, fillRows, aggOf, keyEq, findKey, putKey, V.cells, V.flat, byteOf, bytesOf, rdOf, H.wr, H.kOf, splice, isYl, ↓reduceIte, Nat.reduceEqDiff, Nat.reduceLeDiff, Nat.reduceLT, Nat.reduceAdd, Nat.reduceSub, Nat.reduceMul, Int.reduceLT, Int.reduceLE, Int.reduceEq, Int.reduceAdd, Int.reduceSub, Int.reduceMul, Int.reduceNeg, Int.reduceToNat, reduceCtorEq, e8, e7, e6, e3, hlt]
      have : i = l.length := by omega
      subst this
      exact Abs.eq (by rw [List.take_length]) rfl
  · exact ⟨0, rfl, Nat.zero_le _, by simp [v_pd], by simp [v_pd, hlen], by simp [v_pd, v_args_cons], by simp [v_pd, numB], rfl⟩

/-! ### Small letters -/
def lowB (c : UInt8) : UInt8 := if chU (c.toNat : Int) = true then UInt8.ofNat (c.toNat + 32) else c
def lowS (l : List UInt8) : List UInt8 := l.map lowB
def gSmall (ys : List V) (h : H) : Option (V × H) :=
  match ys with
  | [.s l] => if l.length < 1000000 then some (.s (lowS l), h) else none
  | _ => none
theorem gSmall_eq {l : List UInt8} {h : H} (hl : l.length < 1000000) : gSmall [.s l] h = some (.s (lowS l), h) := if_pos hl
def mixS (l : List UInt8) (i : Nat) : List UInt8 := (l.take i).map lowB ++ l.drop i
theorem mixS_len {l : List UInt8} {i : Nat} (hi : i ≤ l.length) : (mixS l i).length = l.length := by unfold mixS; simp; omega
theorem mixS_at {l : List UInt8} {i : Nat} (hi : i < l.length) : (mixS l i)[i]? = some l[i] := by
  unfold mixS; rw [List.getElem?_append_right (by simp; omega)]; simp [hi, Nat.min_eq_left (Nat.le_of_lt hi)]
theorem mixS_set {l : List UInt8} {i : Nat} (hi : i < l.length) : (mixS l i).set i (lowB l[i]) = mixS l (i + 1) := by
  unfold mixS
  rw [List.set_append_right _ _ (by simp; omega), List.take_succ_eq_append_getElem hi, List.map_append, List.append_assoc]
  congr 1
  simp only [List.length_map, List.length_take, Nat.min_eq_left (Nat.le_of_lt hi), Nat.sub_self]
  rw [List.drop_eq_getElem_cons hi]; rfl
theorem mixS_same {l : List UInt8} {i : Nat} (hi : i < l.length) (h : lowB l[i] = l[i]) : mixS l i = mixS l (i + 1) := by
  rw [← mixS_set hi, h]
  apply List.ext_getElem?
  intro j
  rw [List.getElem?_set]
  split
  · rename_i hj; subst hj
    rw [mixS_len (by omega), if_pos hi, mixS_at hi]
  · rfl
def SmLoop (h : H) (l : List UInt8) (m : Nat) (t : Tm) (g : H) : Prop :=
  ∃ i : Nat, m = l.length - i ∧ i ≤ l.length ∧ t.v 10 = .i .i64 (i : Nat) ∧ t.v 9 = .i .i64 l.length ∧ t.v 8 = .sl (some (h.nx, 0)) l.length l.length false ∧ t.v 3 = .sl (some (h.nx, 0)) l.length l.length false ∧
    Kept h g ∧ h.nx < g.nx ∧ g.get h.nx = some (.bytes (mixS l i) false)
theorem small_ok {kg : Nat} (hgr : pr.ext kg = some (gCh chU)) : OkF pr (c_upgrade_small kg) gSmall := by
  intro ys h v h' hg
  unfold gSmall at hg
  split at hg
  case h_2 => cases hg
  rename_i l
  split at hg
  case isFalse => cases hg
  rename_i hbig
  cases hg
  have xg := @wpCall_ext pr kg _ hgr
  unfold wpF c_upgrade_small
  refine ⟨by simp, ?_⟩
  simp only [↓STEP, SB, looked, behind, lookOk, AAct.kind, AOp.kind, wpRes, evRes, resV, AOp.ev, bin, binI, binS, shiftI, eqV, un, bound, boundO, fill, fillRows, aggOf, keyEq, findKey, putKey, V.cells, V.flat, byteOf, bytesOf, rdOf, H.wr, H.kOf, splice, isYl, ↓reduceIte, Nat.reduceEqDiff, Nat.reduceLeDiff, Nat.reduceLT, Nat.reduceAdd, Nat.reduceSub, Nat.reduceMul, Int.reduceLT, Int.reduceLE, Int.reduceEq, Int.reduceAdd, Int.reduceSub, Int.reduceMul, Int.reduceNeg, Int.reduceToNat, reduceCtorEq]
  refine wpA_loop_inv (SmLoop h l) ?_ (m := l.length) ?_
  · rintro m t g ⟨i, rfl, hi, e10, e9, e8, e3, hk, hnx, hb⟩
    by_cases hlt : (i : Int) < l.length
    · have hil : i < l.length := by omega
      have hc := (l[i]).toNat_lt
      have h1 := mixS_at hil
      have hwr : Go.IntKind.wrap .i64 ((i : Int) + 1) = (i : Int) + 1 := wrap_i64 (by omega) (by omega)
      have yg := gCh_eq chU (l[i].toNat : Int) g
      have hsl := mixS_len hi
      have hset := mixS_set hil
      have hsame := mixS_same hil
      unfold lowB at hset hsame
      cases hu : chU (l[i].toNat : Int) with
      | true =>
        rw [hu] at yg hset
        simp only [if_true] at hset
        have hr : 65 ≤ l[i].toNat ∧ l[i].toNat ≤ 90 := by
          unfold chU at hu
          simp only [Bool.and_eq_true, decide_eq_true_eq] at hu
          omega
        have hu8 : ((l[i].toNat + 32 : Nat) : Int) < 256 := by omega
        have w1 : Go.IntKind.wrap .u8 ((l[i].toNat : Int) + 97) = ((l[i].toNat + 97 : Nat) : Int) := wrap_u8 (l[i].toNat + 97) (by omega)
        have w2 : Go.IntKind.wrap .u8 (((l[i].toNat + 97 : Nat) : Int) - 65) = ((l[i].toNat + 32 : Nat) : Int) := by
          rw [show ((l[i].toNat + 97 : Nat) : Int) - 65 = ((l[i].toNat + 32 : Nat) : Int) by omega]; exact wrap_u8 _ (by omega)
        simp only [↓STEP, SB, looked, behind, lookOk, AAct.kind, AOp.kind, wpRes, evRes, resV, AOp.ev, bin, binI, binS, shiftI, eqV, un, bound, boundO, fill, fillRows, aggOf, keyEq, findKey, putKey, V.cells, V.flat, byteOf, bytesOf, rdOf, H.wr, H.kOf, splice, isYl, ↓reduceIte, Nat.reduceEqDiff, Nat.reduceLeDiff, Nat.reduceLT, Nat.reduceAdd, Nat.reduceSub, Nat.reduceMul, Int.reduceLT, Int.reduceLE, Int.reduceEq, Int.reduceAdd, Int.reduceSub, Int.reduceMul, Int.reduceNeg, Int.reduceToNat, reduceCtorEq, e10, e9, e8, e3, hlt, hb, h1, hwr, xg, yg, w1, w2, hsl, hil, hu8]
        exact ⟨_, by omega, i + 1, rfl, by omega, by simp [v_pd, v_pd0], by simp [v_pd, v_pd0, e9], by simp [v_pd, v_pd0, e8], by simp [v_pd, v_pd0, e3], hk.set (Nat.le_refl _), hnx, by rw [H.get_set, if_pos rfl, hset]⟩
      | false =>
        rw [hu] at yg hsame
        simp only [↓STEP, SB, looked, behind, lookOk, AAct.kind, AOp.kind, wpRes, evRes, resV, AOp.ev, bin, binI, binS, shiftI, eqV, un, bound, boundO, fill, fillRows, aggOf, keyEq, findKey, putKey, V.cells, V.flat, byteOf, bytesOf, rdOf, H.wr, H.kOf, splice, isYl, ↓reduceIte, Nat.reduceEqDiff, Nat.reduceLeDiff, Nat.reduceLT, Nat.reduceAdd, Nat.reduceSub, Nat.reduceMul, Int.reduceLT, Int.reduceLE, Int.reduceEq, Int.reduceAdd, Int.reduceSub, Int.reduceMul, Int.reduceNeg, Int.reduceToNat, reduceCtorEq, e10, e9, e8, e3, hlt, hb, h1, hwr, xg, yg]
        exact ⟨_, by omega, i + 1, rfl, by omega, by simp [v_pd], by simp [v_pd, e9], by simp [v_pd, e8], by simp [v_pd, e3], hk, hnx, by rw [hb, hsame (by simp)]⟩
    · have : i = l.length := by omega
      subst this
      have hs : g.bseg (some (h.nx, 0)) l.length = some (lowS l) := by
        have hm : mixS l l.length = lowS l := by unfold mixS lowS; simp
        rw [hm] at hb
        have hll : (lowS l).length = l.length := by unfold lowS; simp
        by_cases h0 : l.length = 0
        · rw [h0, bseg_zero]; exact congrArg some (List.eq_nil_of_length_eq_zero (by rw [hll]; exact h0)).symm
        · unfold H.bseg
          rw [if_neg h0]
          simp only [hb]
          rw [if_pos (by omega), List.drop_zero, ← hll, List.take_length]
      simp only [↓STEP, SB, looked, behind, lookOk, AAct.kind, AOp.kind, wpRes, evRes, resV, AOp.ev, bin, binI, binS, shiftI, eqV, un, bound, boundO, fill, fillRows, aggOf, keyEq, findKey, putKey, V.cells, V.flat, byteOf, bytesOf, rdOf, H.wr, H.kOf, splice, isYl, ↓reduceIte, Nat.reduceEqDiff, Nat.reduceLeDiff, Nat.reduceLT, Nat.reduceAdd, Nat.reduceSub, Nat.reduceMul, Int.reduceLT, Int.reduceLE, Int.reduceEq, Int.reduceAdd, Int.reduceSub, Int.reduceMul, Int.reduceNeg, Int.reduceToNat, reduceCtorEq, e10, e9, e8, e3, hlt, hs]
      exact Abs.out rfl rfl hk
  · refine ⟨0, rfl, Nat.zero_le _, by simp [v_pd], by simp [v_pd], by simp [v_pd, v_args_cons], by simp [v_pd, v_args_cons], Kept.push Kept.refl, Nat.lt_succ_self _, ?_⟩
    simp only [↓STEP, SB, looked, behind, lookOk, AAct.kind, AOp.kind, wpRes, evRes, resV, AOp.ev, bin, binI, binS, shiftI, eqV, un, bound, boundO, fill, fillRows, aggOf, keyEq, findKey, putKey, V.cells, V.flat, byteOf, bytesOf, rdOf, H.wr, H.kOf, splice, isYl, ↓reduceIte, Nat.reduceEqDiff, Nat.reduceLeDiff, Nat.reduceLT, Nat.reduceAdd, Nat.reduceSub, Nat.reduceMul, Int.reduceLT, Int.reduceLE, Int.reduceEq, Int.reduceAdd, Int.reduceSub, Int.reduceMul, Int.reduceNeg, Int.reduceToNat, reduceCtorEq]
    rfl

/-! ### Blanks off the front -/
def dropC (c : Int) (l : List UInt8) : List UInt8 := l.dropWhile fun x => decide ((x.toNat : Int) = c)
def gTrimB (ys : List V) (h : H) : Option (V × H) :=
  match ys with
  | [.s l, .i .u8 c] => if l.length < 1000000 then some (.s (dropC c l), h) else none
  | _ => none
def TrLoop (h : H) (c : Int) (l : List UInt8) (m : Nat) (t : Tm) (g : H) : Prop :=
  ∃ r : List UInt8, m = r.length ∧ r.length ≤ l.length ∧ t.v 0 = .s r ∧ t.v 1 = .i .u8 c ∧ g = h ∧ dropC c r = dropC c l
theorem trimB_ok : OkF pr c_strings_trimLeftByte gTrimB := by
  intro ys h v h' hg
  unfold gTrimB at hg
  split at hg
  case h_2 => cases hg
  rename_i l c
  split at hg
  case isFalse => cases hg
  rename_i hbig
  cases hg
  unfold wpF c_strings_trimLeftByte
  refine ⟨by simp, ?_⟩
  simp only [↓STEP, SB, looked, behind, lookOk, AAct.kind, AOp.kind, wpRes, evRes, resV, AOp.ev, bin, binI, binS, shiftI, eqV, un, bound, boundO, fill, fillRows, aggOf, keyEq, findKey, putKey, V.cells, V.flat, byteOf, bytesOf, rdOf, H.wr, H.kOf, splice, isYl, ↓reduceIte, Nat.reduceEqDiff, Nat.reduceLeDiff, Nat.reduceLT, Nat.reduceAdd, Nat.reduceSub, Nat.reduceMul, Int.reduceLT, Int.reduceLE, Int.reduceEq, Int.reduceAdd, Int.reduceSub, Int.reduceMul, Int.reduceNeg, Int.reduceToNat, reduceCtorEq]
  refine wpA_loop_inv (TrLoop h c l) ?_ (m := l.length) ?_
  · rintro m t g ⟨r, rfl, hr, e0, e1, rfl, hd⟩
    cases r with
    | nil =>
      simp only [↓STEP, SB, looked, behind, lookOk, AAct.kind, AOp.kind, wpRes, evRes, resV, AOp.ev, bin, binI, binS, shiftI, eqV, un, bound, boundO, fill, fillRows, aggOf, keyEq, findKey, putKey, V.cells, V.flat, byteOf, bytesOf, rdOf, H.wr, H.kOf, splice, isYl, ↓reduceIte, Nat.reduceEqDiff, Nat.reduceLeDiff, Nat.reduceLT, Nat.reduceAdd, Nat.reduceSub, Nat.reduceMul, Int.reduceLT, Int.reduceLE, Int.reduceEq, Int.reduceAdd, Int.reduceSub, Int.reduceMul, Int.reduceNeg, Int.reduceToNat, reduceCtorEq, e0, e1]
      exact Abs.eq (by rw [← hd]; rfl) rfl
    | cons x r =>
      have p1 : (0 : Int) < ((x :: r).length : Int) := by simp only [List.length_cons]; omega
      have p2 : (1 : Int) ≤ ((x :: r).length : Int) := by simp only [List.length_cons]; omega
      by_cases hx : (x.toNat : Int) = c
      · have hx' := eq_true hx
        simp only [List.length_cons] at p1 p2 hr
        simp only [↓STEP, SB, looked, behind, lookOk, AAct.kind, AOp.kind, wpRes, evRes, resV, AOp.ev, bin, binI, binS, shiftI, eqV, un, bound, boundO, fill, fillRows, aggOf, keyEq, findKey, putKey, V.cells, V.flat, byteOf, bytesOf, rdOf, H.wr, H.kOf, splice, isYl, ↓reduceIte, Nat.reduceEqDiff, Nat.reduceLeDiff, Nat.reduceLT, Nat.reduceAdd, Nat.reduceSub, Nat.reduceMul, Int.reduceLT, Int.reduceLE, Int.reduceEq, Int.reduceAdd, Int.reduceSub, Int.reduceMul, Int.reduceNeg, Int.reduceToNat, reduceCtorEq, e0, e1, p1, p2, hx']
        exact ⟨_, Nat.lt_succ_self _, r, rfl, by omega, by simp [v_pd], by simp [v_pd, e1], rfl, by rw [← hd]; unfold dropC; rw [List.dropWhile_cons_of_pos (by simpa using hx)]⟩
      · simp only [List.length_cons] at p1 p2
        simp only [↓STEP, SB, looked, behind, lookOk, AAct.kind, AOp.kind, wpRes, evRes, resV, AOp.ev, bin, binI, binS, shiftI, eqV, un, bound, boundO, fill, fillRows, aggOf, keyEq, findKey, putKey, V.cells, V.flat, byteOf, bytesOf, rdOf, H.wr, H.kOf, splice, isYl, ↓reduceIte, Nat.reduceEqDiff, Nat.reduceLeDiff, Nat.reduceLT, Nat.reduceAdd, Nat.reduceSub, Nat.reduceMul, Int.reduceLT, Int.reduceLE, Int.reduceEq, Int.reduceAdd, Int.reduceSub, Int.reduceMul, Int.reduceNeg, Int.reduceToNat, reduceCtorEq, e0, e1, p1, p2, hx]
        exact Abs.eq (by rw [← hd]; unfold dropC; rw [List.dropWhile_cons_of_neg (by simpa using hx)]) rfl
  · exact ⟨l, rfl, Nat.le_refl _, by simp [v_pd, v_args_cons], by simp [v_pd, v_args_cons], rfl, rfl⟩
def gTrim (ys : List V) (h : H) : Option (V × H) :=
  match ys with
  | [.s l, .s [c]] => if l.length < 1000000 ∧ c.toNat < 128 then some (.s (dropC c.toNat l), h) else none
  | _ => none
theorem gTrim_eq {l : List UInt8} {h : H} (hl : l.length < 1000000) : gTrim [.s l, .s [32]] h = some (.s (dropC 32 l), h) := if_pos ⟨hl, by decide⟩
theorem trim_ok {kt ka kb kc : Nat} (ht : pr.ext kt = some gTrimB) : OkF pr (c_strings_TrimLeft kt ka kb kc) gTrim := by
  intro ys h v h' hg
  unfold gTrim at hg
  split at hg
  case h_2 => cases hg
  rename_i l c
  split at hg
  case isFalse => cases hg
  rename_i hbig
  cases hg
  obtain ⟨hl, hc⟩ := hbig
  have xt := @wpCall_ext pr kt _ ht
  have yt : gTrimB [.s l, .i .u8 (c.toNat : Int)] h = some (.s (dropC c.toNat l), h) := if_pos hl
  have hc' : (c.toNat : Int) < 128 := by omega
  unfold wpF c_strings_TrimLeft
  refine ⟨by simp, ?_⟩
  by_cases he : l = []
  · subst he
    simp only [↓STEP, SB, looked, behind, lookOk, AAct.kind, AOp.kind, wpRes, evRes, resV, AOp.ev, bin, binI, binS, shiftI, eqV, un, bound, boundO, fill, fillRows, aggOf, keyEq, findKey, putKey, V.cells, V.flat, byteOf, bytesOf, rdOf, H.wr, H.kOf, splice, isYl, ↓reduceIte, Nat.reduceEqDiff, Nat.reduceLeDiff, Nat.reduceLT, Nat.reduceAdd, Nat.reduceSub, Nat.reduceMul, Int.reduceLT, Int.reduceLE, Int.reduceEq, Int.reduceAdd, Int.reduceSub, Int.reduceMul, Int.reduceNeg, Int.reduceToNat, reduceCtorEq]
    exact Abs.eq rfl rfl
  · simp only [↓STEP, SB, looked, behind, lookOk, AAct.kind, AOp.kind, wpRes, evRes, resV, AOp.ev, bin, binI, binS, shiftI, eqV, un, bound, boundO, fill, fillRows, aggOf, keyEq, findKey, putKey, V.cells, V.flat, byteOf, bytesOf, rdOf, H.wr, H.kOf, splice, isYl, ↓reduceIte, Nat.reduceEqDiff, Nat.reduceLeDiff, Nat.reduceLT, Nat.reduceAdd, Nat.reduceSub, Nat.reduceMul, Int.reduceLT, Int.reduceLE, Int.reduceEq, Int.reduceAdd, Int.reduceSub, Int.reduceMul, Int.reduceNeg, Int.reduceToNat, reduceCtorEq, he, xt, yt, hc']
    exact Abs.eq rfl rfl

end Am
