/- Script texts: what writing a text gives, in the program and in the document. -/
import Derived.Test.YtjcchmmmbegamaaDoorBs
import Derived.Test.YtjcchmmmbegamaaDoorAsk4
import Derived.Test.YtjcchmmmbegamaaDoorScrP1
import Derived.Test.YtjcchmmmbegamaaDoorCodesAll
namespace Am
set_option linter.unusedVariables false
set_option linter.unusedSimpArgs false
set_option maxRecDepth 20000
set_option maxHeartbeats 4000000
variable {pr : Prog}

def plI (c : Int) : Bool := decide (33 ≤ c) && decide (c ≤ 126) && !decide (c = 34) && !decide (c = 92)
theorem plI_eq (c : UInt8) : plI (c.toNat : Int) = plainB c := by
  unfold plI plainB
  have e1 : (33 ≤ (c.toNat : Int)) = (33 ≤ c.toNat) := propext ⟨fun h => by omega, fun h => by omega⟩
  have e2 : ((c.toNat : Int) ≤ 126) = (c.toNat ≤ 126) := propext ⟨fun h => by omega, fun h => by omega⟩
  have e3 : ((c.toNat : Int) = 34) = (c = 34) := propext ⟨fun h => UInt8.toNat_inj.1 (by show c.toNat = 34; omega), fun h => by subst h; rfl⟩
  have e4 : ((c.toNat : Int) = 92) = (c = 92) := propext ⟨fun h => UInt8.toNat_inj.1 (by show c.toNat = 92; omega), fun h => by subst h; rfl⟩
  simp only [e1, e2, e3, e4]
def gPl (ys : List V) (h : H) : Option (V × H) :=
  match ys with
  | [.i .u8 c] => some (.b (plI c), h)
  | _ => none
theorem gPl_eq (c : UInt8) (h : H) : gPl [.i .u8 (c.toNat : Int)] h = some (.b (plainB c), h) := by rw [← plI_eq]; rfl
theorem splain_ok : OkF pr c_script_plain gPl := by
  intro ys h v h' hg
  unfold gPl at hg
  split at hg
  case h_2 => cases hg
  rename_i c
  cases hg
  unfold wpF c_script_plain
  refine ⟨by simp, ?_⟩
  unfold plI
  by_cases h1 : 33 ≤ c
  · by_cases h2 : c ≤ 126
    · by_cases h3 : c = 34
      · subst h3
        simp only [↓STEP, SB, looked, behind, lookOk, AAct.kind, AOp.kind, wpRes, evRes, resV, AOp.ev, bin, binI, binS, shiftI, eqV, un, bound, boundO, fill, fillRows, aggOf, keyEq, findKey, putKey, V.cells, V.flat, byteOf, bytesOf, rdOf, H.wr, H.kOf, splice, isYl, ↓reduceIte, Nat.reduceEqDiff, Nat.reduceLeDiff, Nat.reduceLT, Nat.reduceAdd, Nat.reduceSub, Nat.reduceMul, Int.reduceLT, Int.reduceLE, Int.reduceEq, Int.reduceAdd, Int.reduceSub, Int.reduceMul, Int.reduceNeg, Int.reduceToNat, reduceCtorEq]
        exact Abs.out rfl rfl Kept.refl
      · by_cases h4 : c = 92
        · subst h4
          simp only [↓STEP, SB, looked, behind, lookOk, AAct.kind, AOp.kind, wpRes, evRes, resV, AOp.ev, bin, binI, binS, shiftI, eqV, un, bound, boundO, fill, fillRows, aggOf, keyEq, findKey, putKey, V.cells, V.flat, byteOf, bytesOf, rdOf, H.wr, H.kOf, splice, isYl, ↓reduceIte, Nat.reduceEqDiff, Nat.reduceLeDiff, Nat.reduceLT, Nat.reduceAdd, Nat.reduceSub, Nat.reduceMul, Int.reduceLT, Int.reduceLE, Int.reduceEq, Int.reduceAdd, Int.reduceSub, Int.reduceMul, Int.reduceNeg, Int.reduceToNat, reduceCtorEq]
          exact Abs.out rfl rfl Kept.refl
        · simp only [↓STEP, SB, looked, behind, lookOk, AAct.kind, AOp.kind, wpRes, evRes, resV, AOp.ev, bin, binI, binS, shiftI, eqV, un, bound, boundO, fill, fillRows, aggOf, keyEq, findKey, putKey, V.cells, V.flat, byteOf, bytesOf, rdOf, H.wr, H.kOf, splice, isYl, ↓reduceIte, Nat.reduceEqDiff, Nat.reduceLeDiff, Nat.reduceLT, Nat.reduceAdd, Nat.reduceSub, Nat.reduceMul, Int.reduceLT, Int.reduceLE, Int.reduceEq, Int.reduceAdd, Int.reduceSub, Int.reduceMul, Int.reduceNeg, Int.reduceToNat, reduceCtorEq, h1, h2, h3, h4]
          exact Abs.out (by simp) rfl Kept.refl
    · simp only [↓STEP, SB, looked, behind, lookOk, AAct.kind, AOp.kind, wpRes, evRes, resV, AOp.ev, bin, binI, binS, shiftI, eqV, un, bound, boundO, fill, fillRows, aggOf, keyEq, findKey, putKey, V.cells, V.flat, byteOf, bytesOf, rdOf, H.wr, H.kOf, splice, isYl, ↓reduceIte, Nat.reduceEqDiff, Nat.reduceLeDiff, Nat.reduceLT, Nat.reduceAdd, Nat.reduceSub, Nat.reduceMul, Int.reduceLT, Int.reduceLE, Int.reduceEq, Int.reduceAdd, Int.reduceSub, Int.reduceMul, Int.reduceNeg, Int.reduceToNat, reduceCtorEq, h1, h2]
      exact Abs.out (by simp [h2]) rfl Kept.refl
  · simp only [↓STEP, SB, looked, behind, lookOk, AAct.kind, AOp.kind, wpRes, evRes, resV, AOp.ev, bin, binI, binS, shiftI, eqV, un, bound, boundO, fill, fillRows, aggOf, keyEq, findKey, putKey, V.cells, V.flat, byteOf, bytesOf, rdOf, H.wr, H.kOf, splice, isYl, ↓reduceIte, Nat.reduceEqDiff, Nat.reduceLeDiff, Nat.reduceLT, Nat.reduceAdd, Nat.reduceSub, Nat.reduceMul, Int.reduceLT, Int.reduceLE, Int.reduceEq, Int.reduceAdd, Int.reduceSub, Int.reduceMul, Int.reduceNeg, Int.reduceToNat, reduceCtorEq, h1]
    exact Abs.out (by simp [h1]) rfl Kept.refl

theorem bseg_tmp3 (g : H) (b b' b'' : UInt8) : (g.push (.bytes [b, b', b''] false)).bseg (some (g.nx, 0)) 3 = some [b, b', b''] := bseg_tmp g [b, b', b'']
theorem OutB.app3 {h0 g : H} {a : Option (Nat × Nat)} {n c : Nat} {out : List UInt8} (o : OutB h0 g a n c out) (x : Blk) (ex : Bool) (b b' b'' : UInt8) (hn : n + 3 ≤ 35184372088832) :
    ∃ a' c' ex' g', appBytes (g.push x) 1 a n c ex [b, b', b''] = some (.sl a' (n + 3) c' ex', g') ∧ Nat.ble (g.nx + 1) g'.nx = true ∧ OutB h0 g' a' (n + 3) c' (out ++ [b, b', b'']) := by
  obtain ⟨a', c', ex', g', e, o'⟩ := (o.push x).app ex [b, b', b''] hn
  exact ⟨a', c', ex', g', e, appBytes_nx (o.push x).sl e, o'⟩
theorem OutB.tmp1 (h : H) (b : UInt8) : OutB h (h.push (.bytes [b] false)) (some (h.nx, 0)) 1 1 [b] :=
  ⟨⟨rfl, Nat.le_refl _, Nat.lt_succ_self _, [b], by rw [H.get_push, if_pos rfl], Nat.le_refl _, rfl⟩, Kept.push Kept.refl, fun i hi => by cases hi; exact Nat.le_refl _⟩

theorem enc_take {l : List UInt8} {i : Nat} (hi : i < l.length) : (l.take (i + 1)).flatMap encB = (l.take i).flatMap encB ++ encB l[i] := by
  rw [List.take_add_one, List.getElem?_eq_getElem hi, List.flatMap_append]; simp
theorem enc_len : ∀ l : List UInt8, (l.flatMap encB).length ≤ 3 * l.length
  | [] => by simp
  | c :: l => by
    have := enc_len l
    rw [List.flatMap_cons, List.length_append, List.length_cons]
    have h3 : (encB c).length ≤ 3 := by unfold encB; split <;> simp
    omega
theorem tx_len (l : List UInt8) : (txF l).length ≤ 3 * l.length + 2 := by
  have := enc_len l
  unfold txF; rw [List.length_cons, List.length_append, List.length_singleton]; omega

def gTx2 (ys : List V) (h : H) : Option (V × H) :=
  match ys with
  | [.s l] => if l.length ≤ 10000000 then some (.s (txF l), h) else none
  | _ => none
theorem gTx2_eq {l : List UInt8} {h : H} (hl : l.length ≤ 10000000) : gTx2 [.s l] h = some (.s (txF l), h) := if_pos hl
def TxLoop (ri : Nat) (h : H) (l : List UInt8) (m : Nat) (t : Tm) (g : H) : Prop :=
  ∃ i a n c ex, m = l.length - i ∧ i ≤ l.length ∧ t.v ri = .i .i64 (i : Nat) ∧ (ri = 9 → t.v 8 = .i .i64 l.length) ∧ t.v 0 = .s l ∧ t.v 3 = .sl a n c ex ∧ OutB h g a n c (34 :: (l.take i).flatMap encB)
theorem hex16 (n : Nat) (h : n < 16) : hexL[n]? = some (hexB n) := by
  have hl : n < hexL.length := h
  unfold hexB
  rw [List.getD_eq_getElem?_getD, List.getElem?_eq_getElem hl]; rfl
theorem hex_u8 (j : Nat) : ((hexB j).toNat : Int) < 256 := by have := (hexB j).toNat_lt; omega

theorem wrap_u8c (x : Nat) (h : x < 256) : Go.IntKind.wrap .u8 (x : Int) = (x : Int) := by
  unfold Go.IntKind.wrap
  simp only [Go.IntKind.bits, Go.IntKind.signed]
  simp; omega
theorem and15u (a : Nat) (ha : a < 256) : bitsOp .and .u8 (a : Int) 15 = some ((a % 16 : Nat) : Int) := by
  have h1 : (BitVec.ofInt 8 (a : Int)).toNat = a := by rw [BitVec.ofInt_natCast, BitVec.toNat_ofNat]; exact Nat.mod_eq_of_lt (by omega)
  show some (Go.IntKind.wrap .u8 ((BitVec.ofInt 8 (a : Int) &&& BitVec.ofInt 8 15).toNat : Int)) = _
  rw [BitVec.toNat_and, h1, show (BitVec.ofInt 8 15).toNat = 2 ^ 4 - 1 by decide, and_low, wrap_u8c _ (by omega)]
theorem text_okP {k : Nat} (hp : pr.ext k = some gPl) : OkF pr (c_script_Text k) gTx2 := by
  intro ys h v h' hg
  unfold gTx2 at hg
  split at hg
  case h_2 => cases hg
  rename_i l
  split at hg
  case isFalse => cases hg
  rename_i hbig
  cases hg
  unfold wpF c_script_Text
  refine ⟨by simp, ?_⟩
  rw [show ([48, 49, 50, 51, 52, 53, 54, 55, 56, 57, 97, 98, 99, 100, 101, 102] : List UInt8) = hexL from rfl]
  have hc0 := @wpCall_ext pr k gPl hp
  simp only [↓STEP, SB, looked, behind, lookOk, AAct.kind, AOp.kind, wpRes, evRes, resV, AOp.ev, bin, binI, binS, shiftI, eqV, un, bound, boundO, fill, fillRows, aggOf, keyEq, findKey, putKey, V.cells, V.flat, byteOf, bytesOf, rdOf, H.wr, H.kOf, splice, isYl, ↓reduceIte, Nat.reduceEqDiff, Nat.reduceLeDiff, Nat.reduceLT, Nat.reduceAdd, Nat.reduceSub, Nat.reduceMul, Int.reduceLT, Int.reduceLE, Int.reduceEq, Int.reduceAdd, Int.reduceSub, Int.reduceMul, Int.reduceNeg, Int.reduceToNat, reduceCtorEq, List.flatten_cons, List.flatten_nil, show UInt8.ofNat 34 = 34 from rfl]
  refine wpA_loop_inv (TxLoop 9 h l) ?_ (m := l.length) ?_
  · rintro m t g ⟨i, a, n, c, ex, rfl, hi, e9, e8, e0, e3, o⟩
    have e8 := e8 rfl
    have hol := enc_len (l.take i)
    rw [List.length_take] at hol
    have hnl : n = ((l.take i).flatMap encB).length + 1 := o.sl.1.symm
    by_cases hlt : (i : Int) < l.length
    · have hil : i < l.length := by omega
      have h1 : l[i]? = some l[i] := List.getElem?_eq_getElem hil
      have hcx := (l[i]).toNat_lt
      have hwr : Go.IntKind.wrap .i64 ((i : Int) + 1) = (i : Int) + 1 := wrap_i64 (by omega) (by omega)
      have hst := enc_take hil
      have finish : ∀ (t' : Tm) (g' : H), t'.v 9 = .i .i64 ((i : Int) + 1) → t'.v 8 = t.v 8 → t'.v 0 = t.v 0 →
          (∃ a n c ex, t'.v 3 = .sl a n c ex ∧ OutB h g' a n c (34 :: (l.take (i + 1)).flatMap encB)) → ∃ m', m' < l.length - i ∧ TxLoop 9 h l m' t' g' := by
        rintro t' g' q1 q2 q3 ⟨a', n', c', ex', q6, q7⟩
        exact ⟨_, by omega, i + 1, a', n', c', ex', rfl, by omega, by rw [q1]; rfl, fun _ => by rw [q2, e8], by rw [q3, e0], q6, q7⟩
      by_cases hpl : plainB l[i] = true
      · have hx : ∀ g', gPl [.i .u8 (l[i].toNat : Int)] g' = some (.b true, g') := fun g' => by rw [gPl_eq, hpl]
        obtain ⟨a', c', ex', g', e1, o'⟩ := o.app1 (.bytes [l[i]] false) ex l[i] (by omega)
        have hcu : (l[i].toNat : Int) < 256 := by omega
        simp only [↓STEP, SB, looked, behind, lookOk, AAct.kind, AOp.kind, wpRes, evRes, resV, AOp.ev, bin, binI, binS, shiftI, eqV, un, bound, boundO, fill, fillRows, aggOf, keyEq, findKey, putKey, V.cells, V.flat, byteOf, bytesOf, rdOf, H.wr, H.kOf, splice, isYl, ↓reduceIte, Nat.reduceEqDiff, Nat.reduceLeDiff, Nat.reduceLT, Nat.reduceAdd, Nat.reduceSub, Nat.reduceMul, Int.reduceLT, Int.reduceLE, Int.reduceEq, Int.reduceAdd, Int.reduceSub, Int.reduceMul, Int.reduceNeg, Int.reduceToNat, reduceCtorEq, e9, e8, e0, e3, hlt, h1, hc0, hx, hwr, hcu, UInt8.ofNat_toNat, List.flatten_cons, List.flatten_nil, bseg_tmp1, e1]
        exact finish _ _ (by simp [v_pd]) (by simp [v_pd]) (by simp [v_pd]) ⟨_, _, _, _, by simp [v_pd]; exact ⟨rfl, rfl, rfl, rfl⟩, by rw [hst, show encB l[i] = [l[i]] by rw [encB, if_pos hpl]]; exact o'⟩
      · have hpl' : plainB l[i] = false := by simpa using hpl
        have hx : ∀ g', gPl [.i .u8 (l[i].toNat : Int)] g' = some (.b false, g') := fun g' => by rw [gPl_eq, hpl']
        obtain ⟨a', c', ex', g', e1, eb, o'⟩ := o.app3 (.bytes [92, hexB (l[i].toNat / 16), hexB (l[i].toNat % 16)] false) ex 92 (hexB (l[i].toNat / 16)) (hexB (l[i].toNat % 16)) (by omega)
        have f16 : Int.fdiv (l[i].toNat : Int) 16 = ((l[i].toNat / 16 : Nat) : Int) := fdiv_nat _ 16
        have x1 := hex16 (l[i].toNat / 16) (by omega)
        have x2 := hex16 (l[i].toNat % 16) (by omega)
        have u1 := hex_u8 (l[i].toNat / 16)
        have u2 := hex_u8 (l[i].toNat % 16)
        have a15 := and15u l[i].toNat (by omega)
        have hmin : Nat.min 4 Go.IntKind.u8.bits = 4 := by decide
        simp only [↓STEP, SB, looked, behind, lookOk, AAct.kind, AOp.kind, wpRes, evRes, resV, AOp.ev, bin, binI, binS, shiftI, eqV, un, bound, boundO, fill, fillRows, aggOf, keyEq, findKey, putKey, V.cells, V.flat, byteOf, bytesOf, rdOf, H.wr, H.kOf, splice, isYl, ↓reduceIte, Nat.reduceEqDiff, Nat.reduceLeDiff, Nat.reduceLT, Nat.reduceAdd, Nat.reduceSub, Nat.reduceMul, Int.reduceLT, Int.reduceLE, Int.reduceEq, Int.reduceAdd, Int.reduceSub, Int.reduceMul, Int.reduceNeg, Int.reduceToNat, reduceCtorEq, e9, e8, e0, e3, hlt, h1, hc0, hx, hwr, hmin, Int.reducePow, f16, a15, x1, x2, u1, u2, UInt8.ofNat_toNat, List.flatten_cons, List.flatten_nil, show UInt8.ofNat 92 = 92 from rfl, bseg_tmp3, e1, eb]
        exact finish _ _ (by simp [v_pd]) (by simp [v_pd]) (by simp [v_pd]) ⟨_, _, _, _, by simp [v_pd]; exact ⟨rfl, rfl, rfl, rfl⟩, by rw [hst, show encB l[i] = [92, hexB (l[i].toNat / 16), hexB (l[i].toNat % 16)] by rw [encB, if_neg hpl]]; exact o'⟩
    · have hil : i = l.length := by omega
      subst hil
      rw [List.take_length] at *
      obtain ⟨a', c', ex', g', e1, o'⟩ := o.app1 (.bytes [34] false) ex 34 (by omega)
      simp only [↓STEP, SB, looked, behind, lookOk, AAct.kind, AOp.kind, wpRes, evRes, resV, AOp.ev, bin, binI, binS, shiftI, eqV, un, bound, boundO, fill, fillRows, aggOf, keyEq, findKey, putKey, V.cells, V.flat, byteOf, bytesOf, rdOf, H.wr, H.kOf, splice, isYl, ↓reduceIte, Nat.reduceEqDiff, Nat.reduceLeDiff, Nat.reduceLT, Nat.reduceAdd, Nat.reduceSub, Nat.reduceMul, Int.reduceLT, Int.reduceLE, Int.reduceEq, Int.reduceAdd, Int.reduceSub, Int.reduceMul, Int.reduceNeg, Int.reduceToNat, reduceCtorEq, e9, e8, e0, e3, hlt, List.flatten_cons, List.flatten_nil, bseg_tmp1, show UInt8.ofNat 34 = 34 from rfl, e1, o'.sl.bseg]
      exact Abs.out rfl rfl o'.kept
  · exact ⟨0, some (h.nx, 0), 1, 1, true, rfl, Nat.zero_le _, by simp [v_pd], fun _ => by simp [v_pd], by simp [v_pd, v_args_cons], by simp [v_pd], OutB.tmp1 h 34⟩
theorem plainB_iff (c : UInt8) : plainB c = true ↔ ¬ (c.toNat : Int) < 33 ∧ ¬ 126 < (c.toNat : Int) ∧ ¬ (c.toNat : Int) = 34 ∧ ¬ (c.toNat : Int) = 92 := by
  rw [← plI_eq]
  unfold plI
  simp only [Bool.and_eq_true, decide_eq_true_eq, Bool.not_eq_true', decide_eq_false_iff_not]
  omega

theorem text_okR : OkF pr c_isthmusref23_Text gTx2 := by
  intro ys h v h' hg
  unfold gTx2 at hg
  split at hg
  case h_2 => cases hg
  rename_i l
  split at hg
  case isFalse => cases hg
  rename_i hbig
  cases hg
  unfold wpF c_isthmusref23_Text
  refine ⟨by simp, ?_⟩
  rw [show ([48, 49, 50, 51, 52, 53, 54, 55, 56, 57, 97, 98, 99, 100, 101, 102] : List UInt8) = hexL from rfl]
  simp only [↓STEP, SB, looked, behind, lookOk, AAct.kind, AOp.kind, wpRes, evRes, resV, AOp.ev, bin, binI, binS, shiftI, eqV, un, bound, boundO, fill, fillRows, aggOf, keyEq, findKey, putKey, V.cells, V.flat, byteOf, bytesOf, rdOf, H.wr, H.kOf, splice, isYl, ↓reduceIte, Nat.reduceEqDiff, Nat.reduceLeDiff, Nat.reduceLT, Nat.reduceAdd, Nat.reduceSub, Nat.reduceMul, Int.reduceLT, Int.reduceLE, Int.reduceEq, Int.reduceAdd, Int.reduceSub, Int.reduceMul, Int.reduceNeg, Int.reduceToNat, reduceCtorEq, List.flatten_cons, List.flatten_nil, show UInt8.ofNat 34 = 34 from rfl]
  refine wpA_loop_inv (TxLoop 4 h l) ?_ (m := l.length) ?_
  · rintro m t g ⟨i, a, n, c, ex, rfl, hi, e4, e8, e0, e3, o⟩
    have hol := enc_len (l.take i)
    rw [List.length_take] at hol
    have hnl : n = ((l.take i).flatMap encB).length + 1 := o.sl.1.symm
    by_cases hlt : (i : Int) < l.length
    · have hil : i < l.length := by omega
      have h1 : l[i]? = some l[i] := List.getElem?_eq_getElem hil
      have hcx := (l[i]).toNat_lt
      have hwr : Go.IntKind.wrap .i64 ((i : Int) + 1) = (i : Int) + 1 := wrap_i64 (by omega) (by omega)
      have hst := enc_take hil
      have finish : ∀ (t' : Tm) (g' : H), t'.v 4 = .i .i64 ((i : Int) + 1) → t'.v 0 = t.v 0 →
          (∃ a n c ex, t'.v 3 = .sl a n c ex ∧ OutB h g' a n c (34 :: (l.take (i + 1)).flatMap encB)) → ∃ m', m' < l.length - i ∧ TxLoop 4 h l m' t' g' := by
        rintro t' g' q1 q3 ⟨a', n', c', ex', q6, q7⟩
        exact ⟨_, by omega, i + 1, a', n', c', ex', rfl, by omega, by rw [q1]; rfl, fun hh => absurd hh (by decide), by rw [q3, e0], q6, q7⟩
      have hiff := plainB_iff l[i]
      by_cases hpl : plainB l[i] = true
      · obtain ⟨g1, g2, g3, g4⟩ := hiff.1 hpl
        obtain ⟨a', c', ex', g', e1, o'⟩ := o.app1 (.bytes [l[i]] false) ex l[i] (by omega)
        have hcu : (l[i].toNat : Int) < 256 := by omega
        simp only [↓STEP, SB, looked, behind, lookOk, AAct.kind, AOp.kind, wpRes, evRes, resV, AOp.ev, bin, binI, binS, shiftI, eqV, un, bound, boundO, fill, fillRows, aggOf, keyEq, findKey, putKey, V.cells, V.flat, byteOf, bytesOf, rdOf, H.wr, H.kOf, splice, isYl, ↓reduceIte, Nat.reduceEqDiff, Nat.reduceLeDiff, Nat.reduceLT, Nat.reduceAdd, Nat.reduceSub, Nat.reduceMul, Int.reduceLT, Int.reduceLE, Int.reduceEq, Int.reduceAdd, Int.reduceSub, Int.reduceMul, Int.reduceNeg, Int.reduceToNat, reduceCtorEq, e4, e0, e3, hlt, h1, g1, g2, g3, g4, hwr, hcu, UInt8.ofNat_toNat, List.flatten_cons, List.flatten_nil, bseg_tmp1, e1]
        exact finish _ _ (by simp [v_pd]) (by simp [v_pd]) ⟨_, _, _, _, by simp [v_pd]; exact ⟨rfl, rfl, rfl, rfl⟩, by rw [hst, show encB l[i] = [l[i]] by rw [encB, if_pos hpl]]; exact o'⟩
      · obtain ⟨a', c', ex', g', e1, eb, o'⟩ := o.app3 (.bytes [92, hexB (l[i].toNat / 16), hexB (l[i].toNat % 16)] false) ex 92 (hexB (l[i].toNat / 16)) (hexB (l[i].toNat % 16)) (by omega)
        have f16 : Int.tdiv (l[i].toNat : Int) 16 = ((l[i].toNat / 16 : Nat) : Int) := tdiv_nat _ 16
        have r16 : Int.tmod (l[i].toNat : Int) 16 = ((l[i].toNat % 16 : Nat) : Int) := tmod_nat _ 16
        have w1 := wrap_u8c (l[i].toNat / 16) (by omega)
        have w2 := wrap_u8c (l[i].toNat % 16) (by omega)
        have x1 := hex16 (l[i].toNat / 16) (by omega)
        have x2 := hex16 (l[i].toNat % 16) (by omega)
        have u1 := hex_u8 (l[i].toNat / 16)
        have u2 := hex_u8 (l[i].toNat % 16)
        have he : encB l[i] = [92, hexB (l[i].toNat / 16), hexB (l[i].toNat % 16)] := by rw [encB, if_neg hpl]
        by_cases g1 : (l[i].toNat : Int) < 33
        · simp only [↓STEP, SB, looked, behind, lookOk, AAct.kind, AOp.kind, wpRes, evRes, resV, AOp.ev, bin, binI, binS, shiftI, eqV, un, bound, boundO, fill, fillRows, aggOf, keyEq, findKey, putKey, V.cells, V.flat, byteOf, bytesOf, rdOf, H.wr, H.kOf, splice, isYl, ↓reduceIte, Nat.reduceEqDiff, Nat.reduceLeDiff, Nat.reduceLT, Nat.reduceAdd, Nat.reduceSub, Nat.reduceMul, Int.reduceLT, Int.reduceLE, Int.reduceEq, Int.reduceAdd, Int.reduceSub, Int.reduceMul, Int.reduceNeg, Int.reduceToNat, reduceCtorEq, e4, e0, e3, hlt, h1, g1, hwr, f16, r16, w1, w2, x1, x2, u1, u2, UInt8.ofNat_toNat, List.flatten_cons, List.flatten_nil, show UInt8.ofNat 92 = 92 from rfl, bseg_tmp3, e1, eb]
          exact finish _ _ (by simp [v_pd]) (by simp [v_pd]) ⟨_, _, _, _, by simp [v_pd]; exact ⟨rfl, rfl, rfl, rfl⟩, by rw [hst, he]; exact o'⟩
        · by_cases g2 : 126 < (l[i].toNat : Int)
          · simp only [↓STEP, SB, looked, behind, lookOk, AAct.kind, AOp.kind, wpRes, evRes, resV, AOp.ev, bin, binI, binS, shiftI, eqV, un, bound, boundO, fill, fillRows, aggOf, keyEq, findKey, putKey, V.cells, V.flat, byteOf, bytesOf, rdOf, H.wr, H.kOf, splice, isYl, ↓reduceIte, Nat.reduceEqDiff, Nat.reduceLeDiff, Nat.reduceLT, Nat.reduceAdd, Nat.reduceSub, Nat.reduceMul, Int.reduceLT, Int.reduceLE, Int.reduceEq, Int.reduceAdd, Int.reduceSub, Int.reduceMul, Int.reduceNeg, Int.reduceToNat, reduceCtorEq, e4, e0, e3, hlt, h1, g1, g2, hwr, f16, r16, w1, w2, x1, x2, u1, u2, UInt8.ofNat_toNat, List.flatten_cons, List.flatten_nil, show UInt8.ofNat 92 = 92 from rfl, bseg_tmp3, e1, eb]
            exact finish _ _ (by simp [v_pd]) (by simp [v_pd]) ⟨_, _, _, _, by simp [v_pd]; exact ⟨rfl, rfl, rfl, rfl⟩, by rw [hst, he]; exact o'⟩
          · by_cases g3 : (l[i].toNat : Int) = 34
            · have d3 := decide_eq_true g3
              simp only [↓STEP, SB, looked, behind, lookOk, AAct.kind, AOp.kind, wpRes, evRes, resV, AOp.ev, bin, binI, binS, shiftI, eqV, un, bound, boundO, fill, fillRows, aggOf, keyEq, findKey, putKey, V.cells, V.flat, byteOf, bytesOf, rdOf, H.wr, H.kOf, splice, isYl, ↓reduceIte, Nat.reduceEqDiff, Nat.reduceLeDiff, Nat.reduceLT, Nat.reduceAdd, Nat.reduceSub, Nat.reduceMul, Int.reduceLT, Int.reduceLE, Int.reduceEq, Int.reduceAdd, Int.reduceSub, Int.reduceMul, Int.reduceNeg, Int.reduceToNat, reduceCtorEq, e4, e0, e3, hlt, h1, g1, g2, d3, hwr, f16, r16, w1, w2, x1, x2, u1, u2, UInt8.ofNat_toNat, List.flatten_cons, List.flatten_nil, show UInt8.ofNat 92 = 92 from rfl, bseg_tmp3, e1, eb]
              exact finish _ _ (by simp [v_pd]) (by simp [v_pd]) ⟨_, _, _, _, by simp [v_pd]; exact ⟨rfl, rfl, rfl, rfl⟩, by rw [hst, he]; exact o'⟩
            · have d3 := decide_eq_false g3
              have d4 := decide_eq_true (show (l[i].toNat : Int) = 92 from Decidable.byContradiction fun g4 => hpl (hiff.2 ⟨g1, g2, g3, g4⟩))
              simp only [↓STEP, SB, looked, behind, lookOk, AAct.kind, AOp.kind, wpRes, evRes, resV, AOp.ev, bin, binI, binS, shiftI, eqV, un, bound, boundO, fill, fillRows, aggOf, keyEq, findKey, putKey, V.cells, V.flat, byteOf, bytesOf, rdOf, H.wr, H.kOf, splice, isYl, ↓reduceIte, Nat.reduceEqDiff, Nat.reduceLeDiff, Nat.reduceLT, Nat.reduceAdd, Nat.reduceSub, Nat.reduceMul, Int.reduceLT, Int.reduceLE, Int.reduceEq, Int.reduceAdd, Int.reduceSub, Int.reduceMul, Int.reduceNeg, Int.reduceToNat, reduceCtorEq, e4, e0, e3, hlt, h1, g1, g2, d3, d4, hwr, f16, r16, w1, w2, x1, x2, u1, u2, UInt8.ofNat_toNat, List.flatten_cons, List.flatten_nil, show UInt8.ofNat 92 = 92 from rfl, bseg_tmp3, e1, eb]
              exact finish _ _ (by simp [v_pd]) (by simp [v_pd]) ⟨_, _, _, _, by simp [v_pd]; exact ⟨rfl, rfl, rfl, rfl⟩, by rw [hst, he]; exact o'⟩
    · have hil : i = l.length := by omega
      subst hil
      rw [List.take_length] at *
      obtain ⟨a', c', ex', g', e1, o'⟩ := o.app1 (.bytes [34] false) ex 34 (by omega)
      simp only [↓STEP, SB, looked, behind, lookOk, AAct.kind, AOp.kind, wpRes, evRes, resV, AOp.ev, bin, binI, binS, shiftI, eqV, un, bound, boundO, fill, fillRows, aggOf, keyEq, findKey, putKey, V.cells, V.flat, byteOf, bytesOf, rdOf, H.wr, H.kOf, splice, isYl, ↓reduceIte, Nat.reduceEqDiff, Nat.reduceLeDiff, Nat.reduceLT, Nat.reduceAdd, Nat.reduceSub, Nat.reduceMul, Int.reduceLT, Int.reduceLE, Int.reduceEq, Int.reduceAdd, Int.reduceSub, Int.reduceMul, Int.reduceNeg, Int.reduceToNat, reduceCtorEq, e4, e0, e3, hlt, List.flatten_cons, List.flatten_nil, bseg_tmp1, show UInt8.ofNat 34 = 34 from rfl, e1, o'.sl.bseg]
      exact Abs.out rfl rfl o'.kept
  · exact ⟨0, some (h.nx, 0), 1, 1, true, rfl, Nat.zero_le _, by simp [v_pd], fun hh => absurd hh (by decide), by simp [v_pd, v_args_cons], by simp [v_pd], OutB.tmp1 h 34⟩
end Am
