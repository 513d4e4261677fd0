/- base64 for URLs, written by the document. -/
import Derived.Test.YtibmhhdgcbaofaaDoorAsk2
namespace Am
set_option linter.unusedVariables false
set_option linter.unusedSimpArgs false
set_option maxRecDepth 20000
set_option maxHeartbeats 4000000
variable {pr : Prog}

theorem enc3 (l : List UInt8) : ∀ q, 3 * q ≤ l.length → ∃ out, Enc.of (l.take (3 * q)) = ⟨0, 0, out⟩
  | 0, _ => ⟨[], rfl⟩
  | q + 1, h => by
    obtain ⟨out, ho⟩ := enc3 l q (by omega)
    have h1 := Enc.of_take (l := l) (i := 3 * q) (by omega)
    have h2 := Enc.of_take (l := l) (i := 3 * q + 1) (by omega)
    have h3 := Enc.of_take (l := l) (i := 3 * q + 1 + 1) (by omega)
    rw [ho] at h1
    rw [h1] at h2
    rw [h2] at h3
    exact ⟨_, h3⟩
theorem codeP_grp {l : List UInt8} {q : Nat} {out : List UInt8} (ho : Enc.of (l.take (3 * q)) = ⟨0, 0, out⟩) : codeP (l.take (3 * q)) = out := by
  unfold codeP; rw [ho]; rfl
theorem codeP_3 {l : List UInt8} {q : Nat} {out : List UInt8} (ho : Enc.of (l.take (3 * q)) = ⟨0, 0, out⟩) (h : 3 * q + 2 < l.length) :
    codeP (l.take (3 * (q + 1))) = out ++ [let6 (((l[3 * q].toNat * 256 + l[3 * q + 1].toNat) * 256 + l[3 * q + 2].toNat) / 262144), let6 (((l[3 * q].toNat * 256 + l[3 * q + 1].toNat) * 256 + l[3 * q + 2].toNat) / 4096 % 64),
      let6 (((l[3 * q].toNat * 256 + l[3 * q + 1].toNat) * 256 + l[3 * q + 2].toNat) / 64 % 64), let6 (((l[3 * q].toNat * 256 + l[3 * q + 1].toNat) * 256 + l[3 * q + 2].toNat) % 64)] := by
  have h1 := Enc.of_take (l := l) (i := 3 * q) (by omega)
  have h2 := Enc.of_take (l := l) (i := 3 * q + 1) (by omega)
  have h3 := Enc.of_take (l := l) (i := 3 * q + 1 + 1) (by omega)
  rw [ho] at h1
  rw [h1] at h2
  rw [h2] at h3
  have b0 := (l[3 * q]).toNat_lt
  have b1 := (l[3 * q + 1]).toNat_lt
  have b2 := (l[3 * q + 2]).toNat_lt
  unfold codeP
  rw [show 3 * (q + 1) = 3 * q + 1 + 1 + 1 by omega, h3]
  unfold Enc.step Enc.fin
  simp only [if_true, show ¬ (2 = 0) by decide, show ¬ (4 = 0) by decide, show ¬ (4 = 2) by decide, if_false, List.append_assoc, List.cons_append, List.nil_append]
  generalize l[3 * q].toNat = x at *
  generalize l[3 * q + 1].toNat = y at *
  generalize hz : l[3 * q + 1 + 1].toNat = z at *
  rw [show (0 * 256 + x) / 4 % 64 = ((x * 256 + y) * 256 + z) / 262144 by omega, show ((0 * 256 + x) % 4 * 256 + y) / 16 % 64 = ((x * 256 + y) * 256 + z) / 4096 % 64 by omega,
    show (((0 * 256 + x) % 4 * 256 + y) % 16 * 256 + z) / 64 % 64 = ((x * 256 + y) * 256 + z) / 64 % 64 by omega, show (((0 * 256 + x) % 4 * 256 + y) % 16 * 256 + z) % 64 = ((x * 256 + y) * 256 + z) % 64 by omega]
theorem codeP_2 {l : List UInt8} {q : Nat} {out : List UInt8} (ho : Enc.of (l.take (3 * q)) = ⟨0, 0, out⟩) (h : 3 * q + 2 = l.length) :
    codeP (l.take (3 * (q + 1))) = out ++ [let6 (((l[3 * q].toNat * 256 + l[3 * q + 1].toNat) * 256) / 262144), let6 (((l[3 * q].toNat * 256 + l[3 * q + 1].toNat) * 256) / 4096 % 64),
      let6 (((l[3 * q].toNat * 256 + l[3 * q + 1].toNat) * 256) / 64 % 64)] := by
  have h1 := Enc.of_take (l := l) (i := 3 * q) (by omega)
  have h2 := Enc.of_take (l := l) (i := 3 * q + 1) (by omega)
  rw [ho] at h1
  rw [h1] at h2
  have b0 := (l[3 * q]).toNat_lt
  have b1 := (l[3 * q + 1]).toNat_lt
  unfold codeP
  have heq : l.take (3 * (q + 1)) = l.take (3 * q + 1 + 1) := by rw [List.take_of_length_le (by omega), List.take_of_length_le (by omega)]
  rw [heq, h2]
  unfold Enc.step Enc.fin
  simp only [if_true, show ¬ (2 = 0) by decide, show ¬ (4 = 0) by decide, show ¬ (4 = 2) by decide, if_false, List.append_assoc, List.cons_append, List.nil_append]
  generalize l[3 * q].toNat = x at *
  generalize l[3 * q + 1].toNat = y at *
  rw [show (0 * 256 + x) / 4 % 64 = (x * 256 + y) * 256 / 262144 by omega, show ((0 * 256 + x) % 4 * 256 + y) / 16 % 64 = (x * 256 + y) * 256 / 4096 % 64 by omega,
    show ((0 * 256 + x) % 4 * 256 + y) % 16 * 4 % 64 = (x * 256 + y) * 256 / 64 % 64 by omega]
theorem codeP_1 {l : List UInt8} {q : Nat} {out : List UInt8} (ho : Enc.of (l.take (3 * q)) = ⟨0, 0, out⟩) (h : 3 * q + 1 = l.length) :
    codeP (l.take (3 * (q + 1))) = out ++ [let6 (l[3 * q].toNat * 65536 / 262144), let6 (l[3 * q].toNat * 65536 / 4096 % 64)] := by
  have h1 := Enc.of_take (l := l) (i := 3 * q) (by omega)
  rw [ho] at h1
  have b0 := (l[3 * q]).toNat_lt
  unfold codeP
  have heq : l.take (3 * (q + 1)) = l.take (3 * q + 1) := by rw [List.take_of_length_le (by omega), List.take_of_length_le (by omega)]
  rw [heq, h1]
  unfold Enc.step Enc.fin
  simp only [if_true, show ¬ (2 = 0) by decide, if_false, List.append_assoc, List.cons_append, List.nil_append]
  generalize l[3 * q].toNat = x at *
  rw [show (0 * 256 + x) / 4 % 64 = x * 65536 / 262144 by omega, show (0 * 256 + x) % 4 * 16 % 64 = x * 65536 / 4096 % 64 by omega]

theorem tdiv_nat (a b : Nat) : Int.tdiv (a : Int) (b : Int) = ((a / b : Nat) : Int) := by
  rw [Int.tdiv_eq_ediv_of_nonneg (Int.natCast_nonneg a)]; rfl
theorem tmod_nat (a b : Nat) : Int.tmod (a : Int) (b : Int) = ((a % b : Nat) : Int) := by
  rw [Int.tmod_eq_emod_of_nonneg (Int.natCast_nonneg a)]; rfl

def CodeLoop18 (h : H) (l : List UInt8) (x : V) (m : Nat) (t : Tm) (g : H) : Prop :=
  ∃ q a n c ex out, m = l.length + 3 - 3 * q ∧ 3 * q ≤ l.length + 2 ∧ t.v 4 = .i .i64 ((3 * q : Nat) : Int) ∧ t.v 0 = x ∧ t.v 3 = .sl a n c ex ∧ out = codeP (l.take (3 * q)) ∧ out.length ≤ 4 * q ∧ OutB h g a n c out

theorem code18_ok : OkF pr c_isthmusref18_Code gCode := by
  intro ys h v h' hg
  unfold gCode at hg
  split at hg
  case h_2 => cases hg
  rename_i a0 n0 c0 ex0
  split at hg
  case isFalse => cases hg
  rename_i hbig
  obtain ⟨l, hl, hg⟩ := Option.bind_eq_some_iff.1 hg
  cases hg
  have hlen := rdB_len hl
  unfold wpF c_isthmusref18_Code
  refine ⟨by simp, ?_⟩
  rw [show ([65, 66, 67, 68, 69, 70, 71, 72, 73, 74, 75, 76, 77, 78, 79, 80, 81, 82, 83, 84, 85, 86, 87, 88, 89, 90, 97, 98, 99, 100, 101, 102, 103, 104, 105, 106, 107, 108, 109, 110, 111, 112, 113, 114, 115, 116, 117, 118, 119, 120, 121, 122, 48, 49, 50, 51, 52, 53, 54, 55, 56, 57, 45, 95] : List UInt8) = letL from rfl]
  simp only [↓STEP, SB, looked, behind, lookOk, AAct.kind, AOp.kind, wpRes, evRes, resV, AOp.ev, bin, binI, binS, shiftI, eqV, un, bound, boundO, fill, fillRows, aggOf, keyEq, findKey, putKey, V.cells, V.flat, byteOf, bytesOf, rdOf, H.wr, H.kOf, splice, isYl, ↓reduceIte, Nat.reduceEqDiff, Nat.reduceLeDiff, Nat.reduceLT, Nat.reduceAdd, Nat.reduceSub, Nat.reduceMul, Int.reduceLT, Int.reduceLE, Int.reduceEq, Int.reduceAdd, Int.reduceSub, Int.reduceMul, Int.reduceNeg, Int.reduceToNat, reduceCtorEq]
  refine wpA_loop_inv (CodeLoop18 h l (.sl a0 n0 c0 ex0)) ?_ (m := l.length + 3) ?_
  · rintro m t g ⟨q, a, n, c, ex, out, rfl, hi, e4, e0, e3, hout, hol, o⟩
    have hnl : n = out.length := o.sl.1.symm
    by_cases hlt : ((3 * q : Nat) : Int) < n0
    · have hil : 3 * q < l.length := by omega
      obtain ⟨out', ho⟩ := enc3 l q (by omega)
      obtain rfl : out = out' := hout.trans (codeP_grp ho)
      have hwr : Go.IntKind.wrap .i64 (((3 * q : Nat) : Int) + 3) = ((3 * (q + 1) : Nat) : Int) := by rw [wrap_i64 (by omega) (by omega)]; omega
      have hw1 : Go.IntKind.wrap .i64 (((3 * q : Nat) : Int) + 1) = ((3 * q + 1 : Nat) : Int) := wrap_i64 (by omega) (by omega)
      have hw2 : Go.IntKind.wrap .i64 (((3 * q : Nat) : Int) + 2) = ((3 * q + 2 : Nat) : Int) := wrap_i64 (by omega) (by omega)
      have hw0 : Go.IntKind.wrap .i64 ((3 * q : Nat) : Int) = ((3 * q : Nat) : Int) := wrap_i64 (by omega) (by omega)
      obtain ⟨b, r, bs, ro, rfl, hgt, hle, hl2, hat⟩ := bseg_open (rdB_bseg (rdB_kept hl o.kept)) (by omega)
      have h0 : bs[r + 3 * q]? = some l[3 * q] := (hat _ (by omega)).trans (List.getElem?_eq_getElem hil)
      have b0 := (l[3 * q]).toNat_lt
      have hwc0 := wrap_nat l[3 * q].toNat (by omega)
      have finish : ∀ (t' : Tm) (g' : H), t'.v 4 = .i .i64 ((3 * (q + 1) : Nat) : Int) → t'.v 0 = t.v 0 → ∀ new : List UInt8, codeP (l.take (3 * (q + 1))) = out ++ new → new.length ≤ 4 →
          (∃ a n c ex, t'.v 3 = .sl a n c ex ∧ OutB h g' a n c (out ++ new)) → ∃ m', m' < l.length + 3 - 3 * q ∧ CodeLoop18 h l (.sl (some (b, r)) n0 c0 ex0) m' t' g' := by
        rintro t' g' q1 q2 new q3 q4 ⟨a', n', c', ex', q5, q6⟩
        exact ⟨_, by omega, q + 1, a', n', c', ex', _, rfl, by omega, q1, by rw [q2, e0], q5, q3.symm, by rw [List.length_append]; omega, q6⟩
      by_cases hB : 3 * q + 1 < l.length
      · have hB' : ((3 * q + 1 : Nat) : Int) < n0 := by omega
        have h1 : bs[r + (3 * q + 1)]? = some l[3 * q + 1] := (hat _ (by omega)).trans (List.getElem?_eq_getElem hB)
        have b1 := (l[3 * q + 1]).toNat_lt
        have hwc1 := wrap_nat l[3 * q + 1].toNat (by omega)
        by_cases hC : 3 * q + 2 < l.length
        · have hcp := codeP_3 ho (by omega)
          have hC' : ((3 * q + 2 : Nat) : Int) < n0 := by omega
          have h2 : bs[r + (3 * q + 2)]? = some l[3 * q + 2] := (hat _ (by omega)).trans (List.getElem?_eq_getElem hC)
          have b2 := (l[3 * q + 2]).toNat_lt
          have hwc2 := wrap_nat l[3 * q + 2].toNat (by omega)
          generalize l[3 * q + 2] = uz at *
          generalize l[3 * q + 1] = uy at *
          generalize l[3 * q] = ux at *
          have m1 : Go.IntKind.wrap .i64 (256 * (ux.toNat : Int)) = ((256 * ux.toNat : Nat) : Int) := wrap_i64 (by omega) (by omega)
          have m2 : Go.IntKind.wrap .i64 (((256 * ux.toNat : Nat) : Int) + (uy.toNat : Int)) = ((256 * ux.toNat + uy.toNat : Nat) : Int) := wrap_i64 (by omega) (by omega)
          have m3 : Go.IntKind.wrap .i64 (256 * ((256 * ux.toNat + uy.toNat : Nat) : Int)) = ((256 * (256 * ux.toNat + uy.toNat) : Nat) : Int) := wrap_i64 (by omega) (by omega)
          have m4 : Go.IntKind.wrap .i64 (((256 * (256 * ux.toNat + uy.toNat) : Nat) : Int) + (uz.toNat : Int)) = (((ux.toNat * 256 + uy.toNat) * 256 + uz.toNat : Nat) : Int) := by rw [wrap_i64 (by omega) (by omega)]; omega
          have hN : (ux.toNat * 256 + uy.toNat) * 256 + uz.toNat < 16777216 := by omega
          generalize (ux.toNat * 256 + uy.toNat) * 256 + uz.toNat = N at *
          have d1 : Int.tdiv (N : Int) 262144 = ((N / 262144 : Nat) : Int) := tdiv_nat N 262144
          have d2 : Int.tdiv (N : Int) 4096 = ((N / 4096 : Nat) : Int) := tdiv_nat N 4096
          have d4 : Int.tmod ((N / 4096 : Nat) : Int) 64 = ((N / 4096 % 64 : Nat) : Int) := tmod_nat (N / 4096) 64
          have w1 := wrap_nat (N / 262144) (by omega)
          have w2 := wrap_nat (N / 4096) (by omega)
          have l1 := let6_at (n := N / 262144) (by omega)
          have l2 := let6_at (n := N / 4096 % 64) (by omega)
          have u1 := let6_u8 (N / 262144)
          have u2 := let6_u8 (N / 4096 % 64)
          obtain ⟨a1, c1, ex1, g1, e1, eb, o1⟩ := o.app2 (.bytes [let6 (N / 262144), let6 (N / 4096 % 64)] false) ex (let6 (N / 262144)) (let6 (N / 4096 % 64)) (by omega)
          have d3 : Int.tdiv (N : Int) 64 = ((N / 64 : Nat) : Int) := tdiv_nat N 64
          have d5 : Int.tmod ((N / 64 : Nat) : Int) 64 = ((N / 64 % 64 : Nat) : Int) := tmod_nat (N / 64) 64
          have w3 := wrap_nat (N / 64) (by omega)
          have l3 := let6_at (n := N / 64 % 64) (by omega)
          have u3 := let6_u8 (N / 64 % 64)
          obtain ⟨a2, c2, ex2, g2, e2, o2⟩ := o1.app1 (.bytes [let6 (N / 64 % 64)] false) ex1 (let6 (N / 64 % 64)) (by omega)
          have d6 : Int.tmod (N : Int) 64 = ((N % 64 : Nat) : Int) := tmod_nat N 64
          have l4 := let6_at (n := N % 64) (by omega)
          have u4 := let6_u8 (N % 64)
          obtain ⟨a3, c3, ex3, g3, e5, o3⟩ := o2.app1 (.bytes [let6 (N % 64)] false) ex2 (let6 (N % 64)) (by omega)
          simp only [↓STEP, SB, looked, behind, lookOk, AAct.kind, AOp.kind, wpRes, evRes, resV, AOp.ev, bin, binI, binS, shiftI, eqV, un, bound, boundO, fill, fillRows, aggOf, keyEq, findKey, putKey, V.cells, V.flat, byteOf, bytesOf, rdOf, H.wr, H.kOf, splice, isYl, ↓reduceIte, Nat.reduceEqDiff, Nat.reduceLeDiff, Nat.reduceLT, Nat.reduceAdd, Nat.reduceSub, Nat.reduceMul, Int.reduceLT, Int.reduceLE, Int.reduceEq, Int.reduceAdd, Int.reduceSub, Int.reduceMul, Int.reduceNeg, Int.reduceToNat, reduceCtorEq, e4, e0, e3, hlt, hgt, h0, hwc0, hwr, hw0, hw1, hw2, Int.zero_add, Int.add_zero, wlits, m1, m3, hB', hC', h1, hwc1, m2, h2, hwc2, m4]
          refine wpA_loop ?_
          simp only [↓STEP, SB, looked, behind, lookOk, AAct.kind, AOp.kind, wpRes, evRes, resV, AOp.ev, bin, binI, binS, shiftI, eqV, un, bound, boundO, fill, fillRows, aggOf, keyEq, findKey, putKey, V.cells, V.flat, byteOf, bytesOf, rdOf, H.wr, H.kOf, splice, isYl, ↓reduceIte, Nat.reduceEqDiff, Nat.reduceLeDiff, Nat.reduceLT, Nat.reduceAdd, Nat.reduceSub, Nat.reduceMul, Int.reduceLT, Int.reduceLE, Int.reduceEq, Int.reduceAdd, Int.reduceSub, Int.reduceMul, Int.reduceNeg, Int.reduceToNat, reduceCtorEq, e4, e0, e3, hlt, hgt, h0, hwc0, hwr, hw0, hw1, hw2, Int.zero_add, Int.add_zero, wlits, m1, m3, hB', hC', h1, hwc1, m2, h2, hwc2, m4]
          refine wpA_loop ?_
          simp only [↓STEP, SB, looked, behind, lookOk, AAct.kind, AOp.kind, wpRes, evRes, resV, AOp.ev, bin, binI, binS, shiftI, eqV, un, bound, boundO, fill, fillRows, aggOf, keyEq, findKey, putKey, V.cells, V.flat, byteOf, bytesOf, rdOf, H.wr, H.kOf, splice, isYl, ↓reduceIte, Nat.reduceEqDiff, Nat.reduceLeDiff, Nat.reduceLT, Nat.reduceAdd, Nat.reduceSub, Nat.reduceMul, Int.reduceLT, Int.reduceLE, Int.reduceEq, Int.reduceAdd, Int.reduceSub, Int.reduceMul, Int.reduceNeg, Int.reduceToNat, reduceCtorEq, e4, e0, e3, hlt, hgt, h0, hwc0, hwr, hw0, hw1, hw2, Int.zero_add, Int.add_zero, wlits, m1, m3, hB', hC', h1, hwc1, m2, h2, hwc2, m4]
          refine wpA_loop ?_
          simp only [↓STEP, SB, looked, behind, lookOk, AAct.kind, AOp.kind, wpRes, evRes, resV, AOp.ev, bin, binI, binS, shiftI, eqV, un, bound, boundO, fill, fillRows, aggOf, keyEq, findKey, putKey, V.cells, V.flat, byteOf, bytesOf, rdOf, H.wr, H.kOf, splice, isYl, ↓reduceIte, Nat.reduceEqDiff, Nat.reduceLeDiff, Nat.reduceLT, Nat.reduceAdd, Nat.reduceSub, Nat.reduceMul, Int.reduceLT, Int.reduceLE, Int.reduceEq, Int.reduceAdd, Int.reduceSub, Int.reduceMul, Int.reduceNeg, Int.reduceToNat, reduceCtorEq, e4, e0, e3, hlt, hgt, h0, hwc0, hwr, hw0, hw1, hw2, Int.zero_add, Int.add_zero, wlits, m1, m3, hB', hC', h1, hwc1, m2, h2, hwc2, m4]
          refine wpA_loop ?_
          simp only [↓STEP, SB, looked, behind, lookOk, AAct.kind, AOp.kind, wpRes, evRes, resV, AOp.ev, bin, binI, binS, shiftI, eqV, un, bound, boundO, fill, fillRows, aggOf, keyEq, findKey, putKey, V.cells, V.flat, byteOf, bytesOf, rdOf, H.wr, H.kOf, splice, isYl, ↓reduceIte, Nat.reduceEqDiff, Nat.reduceLeDiff, Nat.reduceLT, Nat.reduceAdd, Nat.reduceSub, Nat.reduceMul, Int.reduceLT, Int.reduceLE, Int.reduceEq, Int.reduceAdd, Int.reduceSub, Int.reduceMul, Int.reduceNeg, Int.reduceToNat, reduceCtorEq, e4, e0, e3, hlt, hgt, h0, hwc0, hwr, hw0, hw1, hw2, Int.zero_add, Int.add_zero, wlits, m1, m3, hB', hC', h1, hwc1, m2, h2, hwc2, m4, d1, d2, d4, w1, w2, l1, l2, u1, u2, UInt8.ofNat_toNat, List.flatten_cons, List.flatten_nil, bseg_tmp1, bseg_tmp2, e1, eb, d3, d5, w3, l3, u3, e2, d6, l4, u4, e5]
          rw [List.append_assoc, List.append_assoc] at o3
          exact finish _ _ (by simp [v_pd]) (by simp [v_pd]) _ hcp (by simp) ⟨_, _, _, _, by simp [v_pd]; first | rfl | exact ⟨rfl, rfl, rfl, rfl⟩, o3⟩
        · have hcp := codeP_2 ho (by omega)
          have hC' : ¬ ((3 * q + 2 : Nat) : Int) < n0 := by omega
          generalize l[3 * q + 1] = uy at *
          generalize l[3 * q] = ux at *
          have m1 : Go.IntKind.wrap .i64 (256 * (ux.toNat : Int)) = ((256 * ux.toNat : Nat) : Int) := wrap_i64 (by omega) (by omega)
          have m2 : Go.IntKind.wrap .i64 (((256 * ux.toNat : Nat) : Int) + (uy.toNat : Int)) = ((256 * ux.toNat + uy.toNat : Nat) : Int) := wrap_i64 (by omega) (by omega)
          have m3 : Go.IntKind.wrap .i64 (256 * ((256 * ux.toNat + uy.toNat : Nat) : Int)) = ((256 * (256 * ux.toNat + uy.toNat) : Nat) : Int) := wrap_i64 (by omega) (by omega)
          have m4 : ((256 * (256 * ux.toNat + uy.toNat) : Nat) : Int) = (((ux.toNat * 256 + uy.toNat) * 256 : Nat) : Int) := by omega
          rw [m4] at m3
          have hN : (ux.toNat * 256 + uy.toNat) * 256 < 16777216 := by omega
          generalize (ux.toNat * 256 + uy.toNat) * 256 = N at *
          have d1 : Int.tdiv (N : Int) 262144 = ((N / 262144 : Nat) : Int) := tdiv_nat N 262144
          have d2 : Int.tdiv (N : Int) 4096 = ((N / 4096 : Nat) : Int) := tdiv_nat N 4096
          have d4 : Int.tmod ((N / 4096 : Nat) : Int) 64 = ((N / 4096 % 64 : Nat) : Int) := tmod_nat (N / 4096) 64
          have w1 := wrap_nat (N / 262144) (by omega)
          have w2 := wrap_nat (N / 4096) (by omega)
          have l1 := let6_at (n := N / 262144) (by omega)
          have l2 := let6_at (n := N / 4096 % 64) (by omega)
          have u1 := let6_u8 (N / 262144)
          have u2 := let6_u8 (N / 4096 % 64)
          obtain ⟨a1, c1, ex1, g1, e1, eb, o1⟩ := o.app2 (.bytes [let6 (N / 262144), let6 (N / 4096 % 64)] false) ex (let6 (N / 262144)) (let6 (N / 4096 % 64)) (by omega)
          have d3 : Int.tdiv (N : Int) 64 = ((N / 64 : Nat) : Int) := tdiv_nat N 64
          have d5 : Int.tmod ((N / 64 : Nat) : Int) 64 = ((N / 64 % 64 : Nat) : Int) := tmod_nat (N / 64) 64
          have w3 := wrap_nat (N / 64) (by omega)
          have l3 := let6_at (n := N / 64 % 64) (by omega)
          have u3 := let6_u8 (N / 64 % 64)
          obtain ⟨a2, c2, ex2, g2, e2, o2⟩ := o1.app1 (.bytes [let6 (N / 64 % 64)] false) ex1 (let6 (N / 64 % 64)) (by omega)
          simp only [↓STEP, SB, looked, behind, lookOk, AAct.kind, AOp.kind, wpRes, evRes, resV, AOp.ev, bin, binI, binS, shiftI, eqV, un, bound, boundO, fill, fillRows, aggOf, keyEq, findKey, putKey, V.cells, V.flat, byteOf, bytesOf, rdOf, H.wr, H.kOf, splice, isYl, ↓reduceIte, Nat.reduceEqDiff, Nat.reduceLeDiff, Nat.reduceLT, Nat.reduceAdd, Nat.reduceSub, Nat.reduceMul, Int.reduceLT, Int.reduceLE, Int.reduceEq, Int.reduceAdd, Int.reduceSub, Int.reduceMul, Int.reduceNeg, Int.reduceToNat, reduceCtorEq, e4, e0, e3, hlt, hgt, h0, hwc0, hwr, hw0, hw1, hw2, Int.zero_add, Int.add_zero, wlits, m1, m3, hB', hC', h1, hwc1, m2]
          refine wpA_loop ?_
          simp only [↓STEP, SB, looked, behind, lookOk, AAct.kind, AOp.kind, wpRes, evRes, resV, AOp.ev, bin, binI, binS, shiftI, eqV, un, bound, boundO, fill, fillRows, aggOf, keyEq, findKey, putKey, V.cells, V.flat, byteOf, bytesOf, rdOf, H.wr, H.kOf, splice, isYl, ↓reduceIte, Nat.reduceEqDiff, Nat.reduceLeDiff, Nat.reduceLT, Nat.reduceAdd, Nat.reduceSub, Nat.reduceMul, Int.reduceLT, Int.reduceLE, Int.reduceEq, Int.reduceAdd, Int.reduceSub, Int.reduceMul, Int.reduceNeg, Int.reduceToNat, reduceCtorEq, e4, e0, e3, hlt, hgt, h0, hwc0, hwr, hw0, hw1, hw2, Int.zero_add, Int.add_zero, wlits, m1, m3, hB', hC', h1, hwc1, m2]
          refine wpA_loop ?_
          simp only [↓STEP, SB, looked, behind, lookOk, AAct.kind, AOp.kind, wpRes, evRes, resV, AOp.ev, bin, binI, binS, shiftI, eqV, un, bound, boundO, fill, fillRows, aggOf, keyEq, findKey, putKey, V.cells, V.flat, byteOf, bytesOf, rdOf, H.wr, H.kOf, splice, isYl, ↓reduceIte, Nat.reduceEqDiff, Nat.reduceLeDiff, Nat.reduceLT, Nat.reduceAdd, Nat.reduceSub, Nat.reduceMul, Int.reduceLT, Int.reduceLE, Int.reduceEq, Int.reduceAdd, Int.reduceSub, Int.reduceMul, Int.reduceNeg, Int.reduceToNat, reduceCtorEq, e4, e0, e3, hlt, hgt, h0, hwc0, hwr, hw0, hw1, hw2, Int.zero_add, Int.add_zero, wlits, m1, m3, hB', hC', h1, hwc1, m2]
          refine wpA_loop ?_
          simp only [↓STEP, SB, looked, behind, lookOk, AAct.kind, AOp.kind, wpRes, evRes, resV, AOp.ev, bin, binI, binS, shiftI, eqV, un, bound, boundO, fill, fillRows, aggOf, keyEq, findKey, putKey, V.cells, V.flat, byteOf, bytesOf, rdOf, H.wr, H.kOf, splice, isYl, ↓reduceIte, Nat.reduceEqDiff, Nat.reduceLeDiff, Nat.reduceLT, Nat.reduceAdd, Nat.reduceSub, Nat.reduceMul, Int.reduceLT, Int.reduceLE, Int.reduceEq, Int.reduceAdd, Int.reduceSub, Int.reduceMul, Int.reduceNeg, Int.reduceToNat, reduceCtorEq, e4, e0, e3, hlt, hgt, h0, hwc0, hwr, hw0, hw1, hw2, Int.zero_add, Int.add_zero, wlits, m1, m3, hB', hC', h1, hwc1, m2]
          refine wpA_loop ?_
          simp only [↓STEP, SB, looked, behind, lookOk, AAct.kind, AOp.kind, wpRes, evRes, resV, AOp.ev, bin, binI, binS, shiftI, eqV, un, bound, boundO, fill, fillRows, aggOf, keyEq, findKey, putKey, V.cells, V.flat, byteOf, bytesOf, rdOf, H.wr, H.kOf, splice, isYl, ↓reduceIte, Nat.reduceEqDiff, Nat.reduceLeDiff, Nat.reduceLT, Nat.reduceAdd, Nat.reduceSub, Nat.reduceMul, Int.reduceLT, Int.reduceLE, Int.reduceEq, Int.reduceAdd, Int.reduceSub, Int.reduceMul, Int.reduceNeg, Int.reduceToNat, reduceCtorEq, e4, e0, e3, hlt, hgt, h0, hwc0, hwr, hw0, hw1, hw2, Int.zero_add, Int.add_zero, wlits, m1, m3, hB', hC', h1, hwc1, m2, d1, d2, d4, w1, w2, l1, l2, u1, u2, UInt8.ofNat_toNat, List.flatten_cons, List.flatten_nil, bseg_tmp1, bseg_tmp2, e1, eb, d3, d5, w3, l3, u3, e2]
          rw [List.append_assoc] at o2
          exact finish _ _ (by simp [v_pd]) (by simp [v_pd]) _ hcp (by simp) ⟨_, _, _, _, by simp [v_pd]; first | rfl | exact ⟨rfl, rfl, rfl, rfl⟩, o2⟩
      · have hcp := codeP_1 ho (by omega)
        have hB' : ¬ ((3 * q + 1 : Nat) : Int) < n0 := by omega
        have hC' : ¬ ((3 * q + 2 : Nat) : Int) < n0 := by omega
        generalize l[3 * q] = ux at *
        have m1 : Go.IntKind.wrap .i64 (256 * (ux.toNat : Int)) = ((256 * ux.toNat : Nat) : Int) := wrap_i64 (by omega) (by omega)
        have m3 : Go.IntKind.wrap .i64 (256 * ((256 * ux.toNat : Nat) : Int)) = ((256 * (256 * ux.toNat) : Nat) : Int) := wrap_i64 (by omega) (by omega)
        have m4 : ((256 * (256 * ux.toNat) : Nat) : Int) = ((ux.toNat * 65536 : Nat) : Int) := by omega
        rw [m4] at m3
        have hN : ux.toNat * 65536 < 16777216 := by omega
        generalize ux.toNat * 65536 = N at *
        have d1 : Int.tdiv (N : Int) 262144 = ((N / 262144 : Nat) : Int) := tdiv_nat N 262144
        have d2 : Int.tdiv (N : Int) 4096 = ((N / 4096 : Nat) : Int) := tdiv_nat N 4096
        have d4 : Int.tmod ((N / 4096 : Nat) : Int) 64 = ((N / 4096 % 64 : Nat) : Int) := tmod_nat (N / 4096) 64
        have w1 := wrap_nat (N / 262144) (by omega)
        have w2 := wrap_nat (N / 4096) (by omega)
        have l1 := let6_at (n := N / 262144) (by omega)
        have l2 := let6_at (n := N / 4096 % 64) (by omega)
        have u1 := let6_u8 (N / 262144)
        have u2 := let6_u8 (N / 4096 % 64)
        obtain ⟨a1, c1, ex1, g1, e1, eb, o1⟩ := o.app2 (.bytes [let6 (N / 262144), let6 (N / 4096 % 64)] false) ex (let6 (N / 262144)) (let6 (N / 4096 % 64)) (by omega)
        simp only [↓STEP, SB, looked, behind, lookOk, AAct.kind, AOp.kind, wpRes, evRes, resV, AOp.ev, bin, binI, binS, shiftI, eqV, un, bound, boundO, fill, fillRows, aggOf, keyEq, findKey, putKey, V.cells, V.flat, byteOf, bytesOf, rdOf, H.wr, H.kOf, splice, isYl, ↓reduceIte, Nat.reduceEqDiff, Nat.reduceLeDiff, Nat.reduceLT, Nat.reduceAdd, Nat.reduceSub, Nat.reduceMul, Int.reduceLT, Int.reduceLE, Int.reduceEq, Int.reduceAdd, Int.reduceSub, Int.reduceMul, Int.reduceNeg, Int.reduceToNat, reduceCtorEq, e4, e0, e3, hlt, hgt, h0, hwc0, hwr, hw0, hw1, hw2, Int.zero_add, Int.add_zero, wlits, m1, m3, hB', hC']
        refine wpA_loop ?_
        simp only [↓STEP, SB, looked, behind, lookOk, AAct.kind, AOp.kind, wpRes, evRes, resV, AOp.ev, bin, binI, binS, shiftI, eqV, un, bound, boundO, fill, fillRows, aggOf, keyEq, findKey, putKey, V.cells, V.flat, byteOf, bytesOf, rdOf, H.wr, H.kOf, splice, isYl, ↓reduceIte, Nat.reduceEqDiff, Nat.reduceLeDiff, Nat.reduceLT, Nat.reduceAdd, Nat.reduceSub, Nat.reduceMul, Int.reduceLT, Int.reduceLE, Int.reduceEq, Int.reduceAdd, Int.reduceSub, Int.reduceMul, Int.reduceNeg, Int.reduceToNat, reduceCtorEq, e4, e0, e3, hlt, hgt, h0, hwc0, hwr, hw0, hw1, hw2, Int.zero_add, Int.add_zero, wlits, m1, m3, hB', hC']
        refine wpA_loop ?_
        simp only [↓STEP, SB, looked, behind, lookOk, AAct.kind, AOp.kind, wpRes, evRes, resV, AOp.ev, bin, binI, binS, shiftI, eqV, un, bound, boundO, fill, fillRows, aggOf, keyEq, findKey, putKey, V.cells, V.flat, byteOf, bytesOf, rdOf, H.wr, H.kOf, splice, isYl, ↓reduceIte, Nat.reduceEqDiff, Nat.reduceLeDiff, Nat.reduceLT, Nat.reduceAdd, Nat.reduceSub, Nat.reduceMul, Int.reduceLT, Int.reduceLE, Int.reduceEq, Int.reduceAdd, Int.reduceSub, Int.reduceMul, Int.reduceNeg, Int.reduceToNat, reduceCtorEq, e4, e0, e3, hlt, hgt, h0, hwc0, hwr, hw0, hw1, hw2, Int.zero_add, Int.add_zero, wlits, m1, m3, hB', hC']
        refine wpA_loop ?_
        simp only [↓STEP, SB, looked, behind, lookOk, AAct.kind, AOp.kind, wpRes, evRes, resV, AOp.ev, bin, binI, binS, shiftI, eqV, un, bound, boundO, fill, fillRows, aggOf, keyEq, findKey, putKey, V.cells, V.flat, byteOf, bytesOf, rdOf, H.wr, H.kOf, splice, isYl, ↓reduceIte, Nat.reduceEqDiff, Nat.reduceLeDiff, Nat.reduceLT, Nat.reduceAdd, Nat.reduceSub, Nat.reduceMul, Int.reduceLT, Int.reduceLE, Int.reduceEq, Int.reduceAdd, Int.reduceSub, Int.reduceMul, Int.reduceNeg, Int.reduceToNat, reduceCtorEq, e4, e0, e3, hlt, hgt, h0, hwc0, hwr, hw0, hw1, hw2, Int.zero_add, Int.add_zero, wlits, m1, m3, hB', hC']
        refine wpA_loop ?_
        simp only [↓STEP, SB, looked, behind, lookOk, AAct.kind, AOp.kind, wpRes, evRes, resV, AOp.ev, bin, binI, binS, shiftI, eqV, un, bound, boundO, fill, fillRows, aggOf, keyEq, findKey, putKey, V.cells, V.flat, byteOf, bytesOf, rdOf, H.wr, H.kOf, splice, isYl, ↓reduceIte, Nat.reduceEqDiff, Nat.reduceLeDiff, Nat.reduceLT, Nat.reduceAdd, Nat.reduceSub, Nat.reduceMul, Int.reduceLT, Int.reduceLE, Int.reduceEq, Int.reduceAdd, Int.reduceSub, Int.reduceMul, Int.reduceNeg, Int.reduceToNat, reduceCtorEq, e4, e0, e3, hlt, hgt, h0, hwc0, hwr, hw0, hw1, hw2, Int.zero_add, Int.add_zero, wlits, m1, m3, hB', hC', d1, d2, d4, w1, w2, l1, l2, u1, u2, UInt8.ofNat_toNat, List.flatten_cons, List.flatten_nil, bseg_tmp1, bseg_tmp2, e1, eb]
        exact finish _ _ (by simp [v_pd]) (by simp [v_pd]) _ hcp (by simp) ⟨_, _, _, _, by simp [v_pd]; first | rfl | exact ⟨rfl, rfl, rfl, rfl⟩, o1⟩
    · have hout' : out = codeP l := by rw [hout, List.take_of_length_le (by omega)]
      simp only [↓STEP, SB, looked, behind, lookOk, AAct.kind, AOp.kind, wpRes, evRes, resV, AOp.ev, bin, binI, binS, shiftI, eqV, un, bound, boundO, fill, fillRows, aggOf, keyEq, findKey, putKey, V.cells, V.flat, byteOf, bytesOf, rdOf, H.wr, H.kOf, splice, isYl, ↓reduceIte, Nat.reduceEqDiff, Nat.reduceLeDiff, Nat.reduceLT, Nat.reduceAdd, Nat.reduceSub, Nat.reduceMul, Int.reduceLT, Int.reduceLE, Int.reduceEq, Int.reduceAdd, Int.reduceSub, Int.reduceMul, Int.reduceNeg, Int.reduceToNat, reduceCtorEq, e4, e0, e3, hlt, o.sl.bseg]
      exact Abs.out (by rw [hout']) rfl o.kept
  · exact ⟨0, none, 0, 0, true, [], rfl, Nat.zero_le _, by simp [v_pd], by simp [v_pd, v_args_cons], by simp [v_pd], rfl, Nat.le_refl _, OutB.nil h⟩

theorem u8_inj {x y : UInt8} (h : (x.toNat : Int) = y.toNat) : x = y := UInt8.toNat_inj.1 (by omega)

end Am
