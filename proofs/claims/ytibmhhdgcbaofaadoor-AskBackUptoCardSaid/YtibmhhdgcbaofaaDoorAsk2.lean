/- base64 for URLs: what writing and reading it give, in the program and in the document. -/
import Derived.Test.YtibmhhdgcbaofaaDoorBs
import Derived.Test.YtibmhhdgcbaofaaDoorField1
import Derived.Test.YtibmhhdgcbaofaaDoorCodesAll
namespace Am
set_option linter.unusedVariables false
set_option linter.unusedSimpArgs false
set_option maxRecDepth 20000
set_option maxHeartbeats 4000000
variable {pr : Prog}

def letL : List UInt8 := [65, 66, 67, 68, 69, 70, 71, 72, 73, 74, 75, 76, 77, 78, 79, 80, 81, 82, 83, 84, 85, 86, 87, 88, 89, 90, 97, 98, 99, 100, 101, 102, 103, 104, 105, 106, 107, 108, 109, 110, 111, 112, 113, 114, 115, 116, 117, 118, 119, 120, 121, 122, 48, 49, 50, 51, 52, 53, 54, 55, 56, 57, 45, 95]
def let6 (n : Nat) : UInt8 := letL.getD n 0
theorem let6_at {n : Nat} (hn : n < 64) : letL[n]? = some (let6 n) := by
  have hl : n < letL.length := hn
  unfold let6
  rw [List.getD_eq_getElem?_getD, List.getElem?_eq_getElem hl]; rfl

structure Enc where
  w : Nat
  k : Nat
  out : List UInt8
def Enc.step (s : Enc) (c : UInt8) : Enc :=
  if s.k = 0 then ⟨(s.w * 256 + c.toNat) % 4, 2, s.out ++ [let6 ((s.w * 256 + c.toNat) / 4 % 64)]⟩
  else if s.k = 2 then ⟨(s.w * 256 + c.toNat) % 16, 4, s.out ++ [let6 ((s.w * 256 + c.toNat) / 16 % 64)]⟩
  else ⟨0, 0, s.out ++ [let6 ((s.w * 256 + c.toNat) / 64 % 64), let6 ((s.w * 256 + c.toNat) % 64)]⟩
def Enc.of (l : List UInt8) : Enc := l.foldl Enc.step ⟨0, 0, []⟩
def Enc.ok (s : Enc) : Prop := (s.k = 0 ∧ s.w = 0) ∨ (s.k = 2 ∧ s.w < 4) ∨ (s.k = 4 ∧ s.w < 16)
def Enc.fin (s : Enc) : List UInt8 :=
  if s.k = 0 then s.out else if s.k = 2 then s.out ++ [let6 (s.w * 16 % 64)] else s.out ++ [let6 (s.w * 4 % 64)]
def codeP (l : List UInt8) : List UInt8 := (Enc.of l).fin
theorem Enc.step_ok {s : Enc} (h : s.ok) (c : UInt8) : (s.step c).ok := by
  unfold Enc.step Enc.ok
  have := c.toNat_lt
  split
  · right; left; exact ⟨rfl, Nat.mod_lt _ (by decide)⟩
  · split
    · right; right; exact ⟨rfl, Nat.mod_lt _ (by decide)⟩
    · left; exact ⟨rfl, rfl⟩
theorem Enc.step_len (s : Enc) (c : UInt8) : (s.step c).out.length ≤ s.out.length + 2 := by
  unfold Enc.step
  split
  · simp
  · split <;> simp
theorem Enc.of_take {l : List UInt8} {i : Nat} (hi : i < l.length) : Enc.of (l.take (i + 1)) = (Enc.of (l.take i)).step l[i] := by
  unfold Enc.of
  rw [List.take_add_one, List.getElem?_eq_getElem hi, List.foldl_append]; rfl
theorem Enc.of_ok : ∀ (l : List UInt8) (i : Nat), i ≤ l.length → (Enc.of (l.take i)).ok ∧ (Enc.of (l.take i)).out.length ≤ 2 * i
  | l, 0, _ => ⟨.inl ⟨rfl, rfl⟩, Nat.le_refl _⟩
  | l, i + 1, h => by
    obtain ⟨a, b⟩ := Enc.of_ok l i (by omega)
    rw [Enc.of_take (by omega)]
    exact ⟨Enc.step_ok a _, by have := (Enc.of (l.take i)).step_len l[i]; omega⟩

theorem wlits : Go.IntKind.wrap .i64 0 = 0 ∧ Go.IntKind.wrap .i64 1 = 1 ∧ Go.IntKind.wrap .i64 2 = 2 ∧ Go.IntKind.wrap .i64 3 = 3 ∧ Go.IntKind.wrap .i64 4 = 4 ∧ Go.IntKind.wrap .i64 6 = 6 ∧ Go.IntKind.wrap .i64 8 = 8 ∧ Go.IntKind.wrap .i64 10 = 10 ∧ Go.IntKind.wrap .i64 12 = 12 ∧ Go.IntKind.wrap .i64 15 = 15 ∧ Go.IntKind.wrap .i64 16 = 16 ∧ Go.IntKind.wrap .i64 63 = 63 ∧ Go.IntKind.wrap .i64 64 = 64 ∧ Go.IntKind.wrap .i64 14 = 14 := by decide
theorem nmins : Nat.min 0 Go.IntKind.i64.bits = 0 ∧ Nat.min 2 Go.IntKind.i64.bits = 2 ∧ Nat.min 4 Go.IntKind.i64.bits = 4 ∧ Nat.min 6 Go.IntKind.i64.bits = 6 ∧ Nat.min 8 Go.IntKind.i64.bits = 8 := by decide
theorem let6_u8 (j : Nat) : ((let6 j).toNat : Int) < 256 := by have := (let6 j).toNat_lt; omega

def gCode (ys : List V) (h : H) : Option (V × H) :=
  match ys with
  | [.sl a n c ex] => if n ≤ 20000000 then (rdB h a n).bind fun l => some (.s (codeP l), h) else none
  | _ => none

def CodeLoop (h : H) (l : List UInt8) (x : V) (m : Nat) (t : Tm) (g : H) : Prop :=
  ∃ i a n c ex, m = l.length - i ∧ i ≤ l.length ∧ t.v 10 = .i .i64 (i : Nat) ∧ t.v 9 = .i .i64 l.length ∧ t.v 8 = x ∧ t.v 4 = .i .i64 ((Enc.of (l.take i)).w : Nat) ∧ t.v 5 = .i .i64 ((Enc.of (l.take i)).k : Nat) ∧
    t.v 3 = .sl a n c ex ∧ OutB h g a n c (Enc.of (l.take i)).out

theorem code_ok : OkF pr c_upgrade_Code gCode := by
  intro ys h v h' hg
  unfold gCode at hg
  split at hg
  case h_2 => cases hg
  rename_i a0 n0 c0 ex0
  split at hg
  case isFalse => cases hg
  rename_i hbig
  obtain ⟨l, hl, hg⟩ := Option.bind_eq_some_iff.1 hg
  cases hg
  have hlen := rdB_len hl
  unfold wpF c_upgrade_Code
  refine ⟨by simp, ?_⟩
  rw [show ([65, 66, 67, 68, 69, 70, 71, 72, 73, 74, 75, 76, 77, 78, 79, 80, 81, 82, 83, 84, 85, 86, 87, 88, 89, 90, 97, 98, 99, 100, 101, 102, 103, 104, 105, 106, 107, 108, 109, 110, 111, 112, 113, 114, 115, 116, 117, 118, 119, 120, 121, 122, 48, 49, 50, 51, 52, 53, 54, 55, 56, 57, 45, 95] : List UInt8) = letL from rfl]
  simp only [↓STEP, SB, looked, behind, lookOk, AAct.kind, AOp.kind, wpRes, evRes, resV, AOp.ev, bin, binI, binS, shiftI, eqV, un, bound, boundO, fill, fillRows, aggOf, keyEq, findKey, putKey, V.cells, V.flat, byteOf, bytesOf, rdOf, H.wr, H.kOf, splice, isYl, ↓reduceIte, Nat.reduceEqDiff, Nat.reduceLeDiff, Nat.reduceLT, Nat.reduceAdd, Nat.reduceSub, Nat.reduceMul, Int.reduceLT, Int.reduceLE, Int.reduceEq, Int.reduceAdd, Int.reduceSub, Int.reduceMul, Int.reduceNeg, Int.reduceToNat, reduceCtorEq]
  refine wpA_loop_inv (CodeLoop h l (.sl a0 n0 c0 ex0)) ?_ (m := l.length) ?_
  · rintro m t g ⟨i, a, n, c, ex, rfl, hi, e10, e9, e8, e4, e5, e3, o⟩
    obtain ⟨hok, hol⟩ := Enc.of_ok l i hi
    by_cases hlt : (i : Int) < l.length
    · have hil : i < l.length := by omega
      have hstep := Enc.of_take hil
      have hc := (l[i]).toNat_lt
      obtain ⟨b, r, bs, ro, rfl, hgt, hle, hl2, hat⟩ := bseg_open (rdB_bseg (rdB_kept hl o.kept)) (by omega)
      have hi0 : (i : Int) < n0 := by omega
      have h1 : bs[r + i]? = some l[i] := (hat i (by omega)).trans (List.getElem?_eq_getElem hil)
      have hwr : Go.IntKind.wrap .i64 ((i : Int) + 1) = (i : Int) + 1 := wrap_i64 (by omega) (by omega)
      have hwc := wrap_nat l[i].toNat (by omega)
      generalize Enc.of (l.take i) = s at *
      have hnl : n = s.out.length := o.sl.1.symm
      obtain ⟨w, k, out⟩ := s
      simp only at *
      have hw16 : w < 16 := by rcases hok with ⟨_, h⟩ | ⟨_, h⟩ | ⟨_, h⟩ <;> simp only at h <;> omega
      have p8 : Go.IntKind.wrap .i64 ((w : Int) * 256) = ((w * 256 : Nat) : Int) := wrap_nat (w * 256) (by omega)
      have o8 := or8 w l[i].toNat hw16 (by omega)
      unfold Enc.step at hstep
      simp only at hstep
      have hW : w * 256 + l[i].toNat < 4096 := by omega
      generalize hWe : w * 256 + l[i].toNat = W at *
      have finish : ∀ (t' : Tm) (g' : H), t'.v 10 = .i .i64 ((i : Int) + 1) → t'.v 9 = t.v 9 → t'.v 8 = t.v 8 → t'.v 4 = .i .i64 ((Enc.of (l.take (i + 1))).w : Nat) → t'.v 5 = .i .i64 ((Enc.of (l.take (i + 1))).k : Nat) →
          (∃ a n c ex, t'.v 3 = .sl a n c ex ∧ OutB h g' a n c (Enc.of (l.take (i + 1))).out) → ∃ m', m' < l.length - i ∧ CodeLoop h l (.sl (some (b, r)) n0 c0 ex0) m' t' g' := by
        rintro t' g' q1 q2 q3 q4 q5 ⟨a', n', c', ex', q6, q7⟩
        exact ⟨_, by omega, i + 1, a', n', c', ex', rfl, by omega, by rw [q1]; rfl, by rw [q2, e9], by rw [q3, e8], q4, q5, q6, q7⟩
      rcases hok with ⟨hk, hw⟩ | ⟨hk, hw⟩ | ⟨hk, hw⟩
      · simp only at hk hw
        subst hk
        have f4 : Int.fdiv (W : Int) 4 = ((W / 4 : Nat) : Int) := fdiv_nat W 4
        have a63 := and63 (W / 4) (by omega)
        have l6 := let6_at (n := W / 4 % 64) (Nat.mod_lt _ (by decide))
        have l6u := let6_u8 (W / 4 % 64)
        obtain ⟨a', c', ex', g', e1, o'⟩ := o.app1 (.bytes [let6 (W / 4 % 64)] false) ex (let6 (W / 4 % 64)) (by omega)
        have e5' : t.v 5 = .i .i64 0 := e5
        simp only [↓STEP, SB, looked, behind, lookOk, AAct.kind, AOp.kind, wpRes, evRes, resV, AOp.ev, bin, binI, binS, shiftI, eqV, un, bound, boundO, fill, fillRows, aggOf, keyEq, findKey, putKey, V.cells, V.flat, byteOf, bytesOf, rdOf, H.wr, H.kOf, splice, isYl, ↓reduceIte, Nat.reduceEqDiff, Nat.reduceLeDiff, Nat.reduceLT, Nat.reduceAdd, Nat.reduceSub, Nat.reduceMul, Int.reduceLT, Int.reduceLE, Int.reduceEq, Int.reduceAdd, Int.reduceSub, Int.reduceMul, Int.reduceNeg, Int.reduceToNat, reduceCtorEq, e10, e9, e8, e4, e5', e3, hlt, hi0, hgt, h1, hwr, hwc, wlits, nmins, Int.reducePow, p8, o8]
        refine wpA_loop ?_
        simp only [↓STEP, SB, looked, behind, lookOk, AAct.kind, AOp.kind, wpRes, evRes, resV, AOp.ev, bin, binI, binS, shiftI, eqV, un, bound, boundO, fill, fillRows, aggOf, keyEq, findKey, putKey, V.cells, V.flat, byteOf, bytesOf, rdOf, H.wr, H.kOf, splice, isYl, ↓reduceIte, Nat.reduceEqDiff, Nat.reduceLeDiff, Nat.reduceLT, Nat.reduceAdd, Nat.reduceSub, Nat.reduceMul, Int.reduceLT, Int.reduceLE, Int.reduceEq, Int.reduceAdd, Int.reduceSub, Int.reduceMul, Int.reduceNeg, Int.reduceToNat, reduceCtorEq, e10, e9, e8, e4, e5', e3, hwr, wlits, nmins, Int.reducePow, f4, a63, l6, l6u, UInt8.ofNat_toNat, List.flatten_cons, List.flatten_nil, bseg_tmp1, e1]
        refine wpA_loop ?_
        simp only [↓STEP, SB, looked, behind, lookOk, AAct.kind, AOp.kind, wpRes, evRes, resV, AOp.ev, bin, binI, binS, shiftI, eqV, un, bound, boundO, fill, fillRows, aggOf, keyEq, findKey, putKey, V.cells, V.flat, byteOf, bytesOf, rdOf, H.wr, H.kOf, splice, isYl, ↓reduceIte, Nat.reduceEqDiff, Nat.reduceLeDiff, Nat.reduceLT, Nat.reduceAdd, Nat.reduceSub, Nat.reduceMul, Int.reduceLT, Int.reduceLE, Int.reduceEq, Int.reduceAdd, Int.reduceSub, Int.reduceMul, Int.reduceNeg, Int.reduceToNat, reduceCtorEq, e10, e9, e8, e4, e5', e3, hwr, wlits, nmins, Int.reducePow, and3 W (by omega)]
        simp only [if_true] at hstep
        exact finish _ _ (by simp [v_pd]) (by simp [v_pd]) (by simp [v_pd]) (by rw [hstep]; simp [v_pd]) (by rw [hstep]; simp [v_pd]) ⟨_, _, _, _, by simp [v_pd]; exact ⟨rfl, rfl, rfl, rfl⟩, by rw [hstep]; exact o'⟩
      · simp only at hk hw
        subst hk
        have f4 : Int.fdiv (W : Int) 16 = ((W / 16 : Nat) : Int) := fdiv_nat W 16
        have a63 := and63 (W / 16) (by omega)
        have l6 := let6_at (n := W / 16 % 64) (Nat.mod_lt _ (by decide))
        have l6u := let6_u8 (W / 16 % 64)
        obtain ⟨a', c', ex', g', e1, o'⟩ := o.app1 (.bytes [let6 (W / 16 % 64)] false) ex (let6 (W / 16 % 64)) (by omega)
        have e5' : t.v 5 = .i .i64 2 := e5
        simp only [↓STEP, SB, looked, behind, lookOk, AAct.kind, AOp.kind, wpRes, evRes, resV, AOp.ev, bin, binI, binS, shiftI, eqV, un, bound, boundO, fill, fillRows, aggOf, keyEq, findKey, putKey, V.cells, V.flat, byteOf, bytesOf, rdOf, H.wr, H.kOf, splice, isYl, ↓reduceIte, Nat.reduceEqDiff, Nat.reduceLeDiff, Nat.reduceLT, Nat.reduceAdd, Nat.reduceSub, Nat.reduceMul, Int.reduceLT, Int.reduceLE, Int.reduceEq, Int.reduceAdd, Int.reduceSub, Int.reduceMul, Int.reduceNeg, Int.reduceToNat, reduceCtorEq, e10, e9, e8, e4, e5', e3, hlt, hi0, hgt, h1, hwr, hwc, wlits, nmins, Int.reducePow, p8, o8]
        refine wpA_loop ?_
        simp only [↓STEP, SB, looked, behind, lookOk, AAct.kind, AOp.kind, wpRes, evRes, resV, AOp.ev, bin, binI, binS, shiftI, eqV, un, bound, boundO, fill, fillRows, aggOf, keyEq, findKey, putKey, V.cells, V.flat, byteOf, bytesOf, rdOf, H.wr, H.kOf, splice, isYl, ↓reduceIte, Nat.reduceEqDiff, Nat.reduceLeDiff, Nat.reduceLT, Nat.reduceAdd, Nat.reduceSub, Nat.reduceMul, Int.reduceLT, Int.reduceLE, Int.reduceEq, Int.reduceAdd, Int.reduceSub, Int.reduceMul, Int.reduceNeg, Int.reduceToNat, reduceCtorEq, e10, e9, e8, e4, e5', e3, hwr, wlits, nmins, Int.reducePow, f4, a63, l6, l6u, UInt8.ofNat_toNat, List.flatten_cons, List.flatten_nil, bseg_tmp1, e1]
        refine wpA_loop ?_
        simp only [↓STEP, SB, looked, behind, lookOk, AAct.kind, AOp.kind, wpRes, evRes, resV, AOp.ev, bin, binI, binS, shiftI, eqV, un, bound, boundO, fill, fillRows, aggOf, keyEq, findKey, putKey, V.cells, V.flat, byteOf, bytesOf, rdOf, H.wr, H.kOf, splice, isYl, ↓reduceIte, Nat.reduceEqDiff, Nat.reduceLeDiff, Nat.reduceLT, Nat.reduceAdd, Nat.reduceSub, Nat.reduceMul, Int.reduceLT, Int.reduceLE, Int.reduceEq, Int.reduceAdd, Int.reduceSub, Int.reduceMul, Int.reduceNeg, Int.reduceToNat, reduceCtorEq, e10, e9, e8, e4, e5', e3, hwr, wlits, nmins, Int.reducePow, and15 W (by omega)]
        simp only [if_true, show ¬ (2 = 0) by decide, if_false] at hstep
        exact finish _ _ (by simp [v_pd]) (by simp [v_pd]) (by simp [v_pd]) (by rw [hstep]; simp [v_pd]) (by rw [hstep]; simp [v_pd]) ⟨_, _, _, _, by simp [v_pd]; exact ⟨rfl, rfl, rfl, rfl⟩, by rw [hstep]; exact o'⟩
      · simp only at hk hw
        subst hk
        have f4 : Int.fdiv (W : Int) 64 = ((W / 64 : Nat) : Int) := fdiv_nat W 64
        have f1 : Int.fdiv (W : Int) 1 = ((W : Nat) : Int) := by have := fdiv_nat W 1; rw [Nat.div_one] at this; exact this
        have a63 := and63 (W / 64) (by omega)
        have a63' := and63 W (by omega)
        have l6 := let6_at (n := W / 64 % 64) (Nat.mod_lt _ (by decide))
        have l6u := let6_u8 (W / 64 % 64)
        have l7 := let6_at (n := W % 64) (Nat.mod_lt _ (by decide))
        have l7u := let6_u8 (W % 64)
        obtain ⟨a1, c1, ex1, g1, e1, o1⟩ := o.app1 (.bytes [let6 (W / 64 % 64)] false) ex (let6 (W / 64 % 64)) (by omega)
        obtain ⟨a', c', ex', g', e2, o'⟩ := o1.app1 (.bytes [let6 (W % 64)] false) ex1 (let6 (W % 64)) (by omega)
        have e5' : t.v 5 = .i .i64 4 := e5
        simp only [↓STEP, SB, looked, behind, lookOk, AAct.kind, AOp.kind, wpRes, evRes, resV, AOp.ev, bin, binI, binS, shiftI, eqV, un, bound, boundO, fill, fillRows, aggOf, keyEq, findKey, putKey, V.cells, V.flat, byteOf, bytesOf, rdOf, H.wr, H.kOf, splice, isYl, ↓reduceIte, Nat.reduceEqDiff, Nat.reduceLeDiff, Nat.reduceLT, Nat.reduceAdd, Nat.reduceSub, Nat.reduceMul, Int.reduceLT, Int.reduceLE, Int.reduceEq, Int.reduceAdd, Int.reduceSub, Int.reduceMul, Int.reduceNeg, Int.reduceToNat, reduceCtorEq, e10, e9, e8, e4, e5', e3, hlt, hi0, hgt, h1, hwr, hwc, wlits, nmins, Int.reducePow, p8, o8]
        refine wpA_loop ?_
        simp only [↓STEP, SB, looked, behind, lookOk, AAct.kind, AOp.kind, wpRes, evRes, resV, AOp.ev, bin, binI, binS, shiftI, eqV, un, bound, boundO, fill, fillRows, aggOf, keyEq, findKey, putKey, V.cells, V.flat, byteOf, bytesOf, rdOf, H.wr, H.kOf, splice, isYl, ↓reduceIte, Nat.reduceEqDiff, Nat.reduceLeDiff, Nat.reduceLT, Nat.reduceAdd, Nat.reduceSub, Nat.reduceMul, Int.reduceLT, Int.reduceLE, Int.reduceEq, Int.reduceAdd, Int.reduceSub, Int.reduceMul, Int.reduceNeg, Int.reduceToNat, reduceCtorEq, e10, e9, e8, e4, e5', e3, hwr, wlits, nmins, Int.reducePow, f4, a63, l6, l6u, UInt8.ofNat_toNat, List.flatten_cons, List.flatten_nil, bseg_tmp1, e1]
        refine wpA_loop ?_
        simp only [↓STEP, SB, looked, behind, lookOk, AAct.kind, AOp.kind, wpRes, evRes, resV, AOp.ev, bin, binI, binS, shiftI, eqV, un, bound, boundO, fill, fillRows, aggOf, keyEq, findKey, putKey, V.cells, V.flat, byteOf, bytesOf, rdOf, H.wr, H.kOf, splice, isYl, ↓reduceIte, Nat.reduceEqDiff, Nat.reduceLeDiff, Nat.reduceLT, Nat.reduceAdd, Nat.reduceSub, Nat.reduceMul, Int.reduceLT, Int.reduceLE, Int.reduceEq, Int.reduceAdd, Int.reduceSub, Int.reduceMul, Int.reduceNeg, Int.reduceToNat, reduceCtorEq, e10, e9, e8, e4, e5', e3, hwr, wlits, nmins, Int.reducePow, f1, a63', l7, l7u, UInt8.ofNat_toNat, List.flatten_cons, List.flatten_nil, bseg_tmp1, e2]
        refine wpA_loop ?_
        simp only [↓STEP, SB, looked, behind, lookOk, AAct.kind, AOp.kind, wpRes, evRes, resV, AOp.ev, bin, binI, binS, shiftI, eqV, un, bound, boundO, fill, fillRows, aggOf, keyEq, findKey, putKey, V.cells, V.flat, byteOf, bytesOf, rdOf, H.wr, H.kOf, splice, isYl, ↓reduceIte, Nat.reduceEqDiff, Nat.reduceLeDiff, Nat.reduceLT, Nat.reduceAdd, Nat.reduceSub, Nat.reduceMul, Int.reduceLT, Int.reduceLE, Int.reduceEq, Int.reduceAdd, Int.reduceSub, Int.reduceMul, Int.reduceNeg, Int.reduceToNat, reduceCtorEq, e10, e9, e8, e4, e5', e3, hwr, wlits, nmins, Int.reducePow, and0 W (by omega)]
        simp only [show ¬ (4 = 0) by decide, show ¬ (4 = 2) by decide, if_false] at hstep
        rw [List.append_assoc] at o'
        exact finish _ _ (by simp [v_pd]) (by simp [v_pd]) (by simp [v_pd]) (by rw [hstep]; simp [v_pd]) (by rw [hstep]; simp [v_pd]) ⟨_, _, _, _, by simp [v_pd]; exact ⟨rfl, rfl, rfl, rfl⟩, by rw [hstep]; exact o'⟩
    · have hil : i = l.length := by omega
      subst hil
      rw [List.take_length] at *
      have hcp : codeP l = (Enc.of l).fin := rfl
      generalize Enc.of l = s at *
      obtain ⟨w, k, out⟩ := s
      unfold Enc.fin at hcp
      simp only at *
      rcases hok with ⟨hk, hw⟩ | ⟨hk, hw⟩ | ⟨hk, hw⟩
      · simp only at hk hw
        subst hk
        have e5' : t.v 5 = .i .i64 0 := e5
        simp only [↓STEP, SB, looked, behind, lookOk, AAct.kind, AOp.kind, wpRes, evRes, resV, AOp.ev, bin, binI, binS, shiftI, eqV, un, bound, boundO, fill, fillRows, aggOf, keyEq, findKey, putKey, V.cells, V.flat, byteOf, bytesOf, rdOf, H.wr, H.kOf, splice, isYl, ↓reduceIte, Nat.reduceEqDiff, Nat.reduceLeDiff, Nat.reduceLT, Nat.reduceAdd, Nat.reduceSub, Nat.reduceMul, Int.reduceLT, Int.reduceLE, Int.reduceEq, Int.reduceAdd, Int.reduceSub, Int.reduceMul, Int.reduceNeg, Int.reduceToNat, reduceCtorEq, e10, e9, e8, e4, e5', e3, hlt, o.sl.bseg]
        exact Abs.out (by rw [hcp]; simp) rfl o.kept
      · simp only at hk hw
        subst hk
        have e5' : t.v 5 = .i .i64 2 := e5
        have p4 : Go.IntKind.wrap .i64 ((w : Int) * 16) = ((w * 16 : Nat) : Int) := wrap_nat (w * 16) (by omega)
        have a63 := and63 (w * 16) (by omega)
        have l6 := let6_at (n := w * 16 % 64) (Nat.mod_lt _ (by decide))
        have l6u := let6_u8 (w * 16 % 64)
        have hnl : n = out.length := o.sl.1.symm
        obtain ⟨a', c', ex', g', e1, o'⟩ := o.app1 (.bytes [let6 (w * 16 % 64)] false) ex (let6 (w * 16 % 64)) (by omega)
        simp only [↓STEP, SB, looked, behind, lookOk, AAct.kind, AOp.kind, wpRes, evRes, resV, AOp.ev, bin, binI, binS, shiftI, eqV, un, bound, boundO, fill, fillRows, aggOf, keyEq, findKey, putKey, V.cells, V.flat, byteOf, bytesOf, rdOf, H.wr, H.kOf, splice, isYl, ↓reduceIte, Nat.reduceEqDiff, Nat.reduceLeDiff, Nat.reduceLT, Nat.reduceAdd, Nat.reduceSub, Nat.reduceMul, Int.reduceLT, Int.reduceLE, Int.reduceEq, Int.reduceAdd, Int.reduceSub, Int.reduceMul, Int.reduceNeg, Int.reduceToNat, reduceCtorEq, e10, e9, e8, e4, e5', e3, hlt, wlits, nmins, Int.reducePow, p4, a63, l6, l6u, UInt8.ofNat_toNat, List.flatten_cons, List.flatten_nil, bseg_tmp1, e1, o'.sl.bseg]
        exact Abs.out (by rw [hcp]; simp) rfl o'.kept
      · simp only at hk hw
        subst hk
        have e5' : t.v 5 = .i .i64 4 := e5
        have p4 : Go.IntKind.wrap .i64 ((w : Int) * 4) = ((w * 4 : Nat) : Int) := wrap_nat (w * 4) (by omega)
        have a63 := and63 (w * 4) (by omega)
        have l6 := let6_at (n := w * 4 % 64) (Nat.mod_lt _ (by decide))
        have l6u := let6_u8 (w * 4 % 64)
        have hnl : n = out.length := o.sl.1.symm
        obtain ⟨a', c', ex', g', e1, o'⟩ := o.app1 (.bytes [let6 (w * 4 % 64)] false) ex (let6 (w * 4 % 64)) (by omega)
        simp only [↓STEP, SB, looked, behind, lookOk, AAct.kind, AOp.kind, wpRes, evRes, resV, AOp.ev, bin, binI, binS, shiftI, eqV, un, bound, boundO, fill, fillRows, aggOf, keyEq, findKey, putKey, V.cells, V.flat, byteOf, bytesOf, rdOf, H.wr, H.kOf, splice, isYl, ↓reduceIte, Nat.reduceEqDiff, Nat.reduceLeDiff, Nat.reduceLT, Nat.reduceAdd, Nat.reduceSub, Nat.reduceMul, Int.reduceLT, Int.reduceLE, Int.reduceEq, Int.reduceAdd, Int.reduceSub, Int.reduceMul, Int.reduceNeg, Int.reduceToNat, reduceCtorEq, e10, e9, e8, e4, e5', e3, hlt, wlits, nmins, Int.reducePow, p4, a63, l6, l6u, UInt8.ofNat_toNat, List.flatten_cons, List.flatten_nil, bseg_tmp1, e1, o'.sl.bseg]
        exact Abs.out (by rw [hcp]; simp) rfl o'.kept
  · exact ⟨0, none, 0, 0, true, rfl, Nat.zero_le _, by simp [v_pd], by simp [v_pd, v_args_cons, hlen], by simp [v_pd, v_args_cons], by simp [v_pd]; rfl, by simp [v_pd]; rfl, by simp [v_pd], OutB.nil h⟩

end Am
