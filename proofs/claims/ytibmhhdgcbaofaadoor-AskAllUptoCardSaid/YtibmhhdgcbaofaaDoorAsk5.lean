/- base64 for URLs, read by the document. -/
import Derived.Test.YtibmhhdgcbaofaaDoorAsk3
import Derived.Test.YtibmhhdgcbaofaaDoorAsk4
namespace Am
set_option linter.unusedVariables false
set_option linter.unusedSimpArgs false
set_option maxRecDepth 20000
set_option maxHeartbeats 4000000
variable {pr : Prog}

theorem fIdx_self : ((List.range 64).all fun j => fIdx letL (let6 j) == (j : Int)) = true := by decide +kernel
theorem fIdx_at {c : UInt8} {j : Nat} (hj : j < 64) : (letL[j]? = some c) ↔ fIdx letL c = j := by
  have hl : letL.length = 64 := rfl
  constructor
  · intro h
    rw [let6_at hj] at h
    cases h
    have := List.all_eq_true.1 fIdx_self j (List.mem_range.2 hj)
    simpa using this
  · intro h
    unfold fIdx at h
    cases hf : letL.findIdx? (fun b => b == c) with
    | none => rw [hf] at h; simp at h <;> omega
    | some i =>
      rw [hf] at h
      simp only at h
      have hij : i = j := by omega
      subst hij
      obtain ⟨hi, h1, _⟩ := List.findIdx?_eq_some_iff_getElem.1 hf
      rw [List.getElem?_eq_getElem hi]
      exact congrArg some (by simpa using h1)
theorem fIdx_ge (c : UInt8) : -1 ≤ fIdx letL c := by
  unfold fIdx
  split
  · omega
  · decide
def scan (c : UInt8) (j : Nat) : Int := if 0 ≤ fIdx letL c ∧ fIdx letL c < j then fIdx letL c else -1
theorem scan_end (c : UInt8) : scan c 64 = fIdx letL c := by
  have := fIdx_ge c
  have := fIdx_letL c
  unfold scan
  split <;> omega
def ScanLoop (c : UInt8) (x0 x4 x5 x6 x7 : V) (g0 : H) (m : Nat) (t : Tm) (g : H) : Prop :=
  ∃ j : Nat, m = 64 - j ∧ j ≤ 64 ∧ t.v 9 = .i .i64 (j : Nat) ∧ t.v 8 = .i .i64 (scan c j) ∧ t.v 0 = x0 ∧ t.v 4 = x4 ∧ t.v 5 = x5 ∧ t.v 6 = x6 ∧ t.v 7 = x7 ∧ g = g0

def DecLoop18 (h : H) (l : List UInt8) (m : Nat) (t : Tm) (g : H) : Prop :=
  ∃ (i : Nat) (s : Dec) (a : Option (Nat × Nat)) (n : Nat) (ex : Bool), m = l.length - i ∧ i ≤ l.length ∧ t.v 7 = .i .i64 (i : Nat) ∧ t.v 0 = .s l ∧ Dec.of (l.take i) = some s ∧ t.v 5 = .i .i64 (s.w : Nat) ∧ t.v 6 = .i .i64 (s.k : Nat) ∧
    t.v 4 = .sl a n n ex ∧ OutX h g a n ex s.out

theorem decode18_ok : OkF pr c_isthmusref18_Decode gDec := by
  intro ys h v h' hg
  unfold gDec at hg
  split at hg
  case h_2 => cases hg
  rename_i l
  split at hg
  case isFalse => cases hg
  rename_i hbig
  unfold wpF c_isthmusref18_Decode
  refine ⟨by simp, ?_⟩
  rw [show ([65, 66, 67, 68, 69, 70, 71, 72, 73, 74, 75, 76, 77, 78, 79, 80, 81, 82, 83, 84, 85, 86, 87, 88, 89, 90, 97, 98, 99, 100, 101, 102, 103, 104, 105, 106, 107, 108, 109, 110, 111, 112, 113, 114, 115, 116, 117, 118, 119, 120, 121, 122, 48, 49, 50, 51, 52, 53, 54, 55, 56, 57, 45, 95] : List UInt8) = letL from rfl]
  have lost : decP l = none → Abs h (.tup [.sl none 0 0 true, .i .i64 4]) h v h' := fun hd => by
    rw [hd] at hg
    cases hg
    exact Abs.refl
  have hr4 : Int.tmod (l.length : Int) 4 = ((l.length % 4 : Nat) : Int) := tmod_nat l.length 4
  by_cases h1 : ((l.length % 4 : Nat) : Int) = 1
  · simp only [↓STEP, SB, looked, behind, lookOk, AAct.kind, AOp.kind, wpRes, evRes, resV, AOp.ev, bin, binI, binS, shiftI, eqV, un, bound, boundO, fill, fillRows, aggOf, keyEq, findKey, putKey, V.cells, V.flat, byteOf, bytesOf, rdOf, H.wr, H.kOf, splice, isYl, ↓reduceIte, Nat.reduceEqDiff, Nat.reduceLeDiff, Nat.reduceLT, Nat.reduceAdd, Nat.reduceSub, Nat.reduceMul, Int.reduceLT, Int.reduceLE, Int.reduceEq, Int.reduceAdd, Int.reduceSub, Int.reduceMul, Int.reduceNeg, Int.reduceToNat, reduceCtorEq, hr4, h1]
    refine lost ?_
    unfold decP
    cases Dec.of l with
    | none => rfl
    | some s => simp only [Option.bind_some]; rw [if_pos (.inl (by omega))]
  simp only [↓STEP, SB, looked, behind, lookOk, AAct.kind, AOp.kind, wpRes, evRes, resV, AOp.ev, bin, binI, binS, shiftI, eqV, un, bound, boundO, fill, fillRows, aggOf, keyEq, findKey, putKey, V.cells, V.flat, byteOf, bytesOf, rdOf, H.wr, H.kOf, splice, isYl, ↓reduceIte, Nat.reduceEqDiff, Nat.reduceLeDiff, Nat.reduceLT, Nat.reduceAdd, Nat.reduceSub, Nat.reduceMul, Int.reduceLT, Int.reduceLE, Int.reduceEq, Int.reduceAdd, Int.reduceSub, Int.reduceMul, Int.reduceNeg, Int.reduceToNat, reduceCtorEq, hr4, h1]
  refine wpA_loop_inv (DecLoop18 h l) ?_ (m := l.length) ?_
  · rintro m t g ⟨i, s, a, n, ex, rfl, hi, e7, e0, hs, e5, e6, e4, o⟩
    obtain ⟨hok, hol⟩ := Dec.of_ok l i s hi hs
    by_cases hlt : (i : Int) < l.length
    · have hil : i < l.length := by omega
      have hget : l[i]? = some l[i] := List.getElem?_eq_getElem hil
      have hstep0 := Dec.of_take hil
      rw [hs] at hstep0
      have hval : val6 l[i] = if 0 ≤ fIdx letL l[i] then some (fIdx letL l[i]).toNat else none := rfl
      have hj64 := fIdx_letL l[i]
      simp only [↓STEP, SB, looked, behind, lookOk, AAct.kind, AOp.kind, wpRes, evRes, resV, AOp.ev, bin, binI, binS, shiftI, eqV, un, bound, boundO, fill, fillRows, aggOf, keyEq, findKey, putKey, V.cells, V.flat, byteOf, bytesOf, rdOf, H.wr, H.kOf, splice, isYl, ↓reduceIte, Nat.reduceEqDiff, Nat.reduceLeDiff, Nat.reduceLT, Nat.reduceAdd, Nat.reduceSub, Nat.reduceMul, Int.reduceLT, Int.reduceLE, Int.reduceEq, Int.reduceAdd, Int.reduceSub, Int.reduceMul, Int.reduceNeg, Int.reduceToNat, reduceCtorEq, e7, e0, hlt]
      refine wpA_loop_inv (ScanLoop l[i] (.s l) (t.v 4) (t.v 5) (t.v 6) (t.v 7) g) ?_ (m := 64) ?_
      · rintro m2 t2 g2 ⟨j, rfl, hj, f9, f8, f0, f4, f5, f6, f7, rfl⟩
        have hwr : Go.IntKind.wrap .i64 ((i : Int) + 1) = (i : Int) + 1 := wrap_i64 (by omega) (by omega)
        by_cases hjl : (j : Int) < 64
        · have hwj : Go.IntKind.wrap .i64 ((j : Int) + 1) = (j : Int) + 1 := wrap_i64 (by omega) (by omega)
          have hlj := let6_at (n := j) (by omega)
          have hiff := fIdx_at (c := l[i]) (j := j) (by omega)
          rw [hlj] at hiff
          rw [e7] at f7
          by_cases hc : ((let6 j).toNat : Int) = (l[i].toNat : Int)
          · have hf : fIdx letL l[i] = j := hiff.1 (congrArg some (u8_inj hc))
            have hc' := eq_true hc
            simp only [↓STEP, SB, looked, behind, lookOk, AAct.kind, AOp.kind, wpRes, evRes, resV, AOp.ev, bin, binI, binS, shiftI, eqV, un, bound, boundO, fill, fillRows, aggOf, keyEq, findKey, putKey, V.cells, V.flat, byteOf, bytesOf, rdOf, H.wr, H.kOf, splice, isYl, ↓reduceIte, Nat.reduceEqDiff, Nat.reduceLeDiff, Nat.reduceLT, Nat.reduceAdd, Nat.reduceSub, Nat.reduceMul, Int.reduceLT, Int.reduceLE, Int.reduceEq, Int.reduceAdd, Int.reduceSub, Int.reduceMul, Int.reduceNeg, Int.reduceToNat, reduceCtorEq, f9, f8, f0, f7, hjl, hlj, hget, hc', hwj]
            exact ⟨_, by omega, j + 1, rfl, by omega, by simp [v_pd], by simp [v_pd]; unfold scan; rw [if_pos (by omega), hf], by simp [v_pd, f0], by simp [v_pd, f4], by simp [v_pd, f5], by simp [v_pd, f6], by simp [v_pd, f7, e7], rfl⟩
          · have hf : ¬ fIdx letL l[i] = j := fun hf => hc (by rw [Option.some.inj (hiff.2 hf)])
            have hsc : scan l[i] (j + 1) = scan l[i] j := by
              unfold scan
              by_cases hx : 0 ≤ fIdx letL l[i] ∧ fIdx letL l[i] < j
              · rw [if_pos hx, if_pos (by omega)]
              · rw [if_neg hx, if_neg (by omega)]
            simp only [↓STEP, SB, looked, behind, lookOk, AAct.kind, AOp.kind, wpRes, evRes, resV, AOp.ev, bin, binI, binS, shiftI, eqV, un, bound, boundO, fill, fillRows, aggOf, keyEq, findKey, putKey, V.cells, V.flat, byteOf, bytesOf, rdOf, H.wr, H.kOf, splice, isYl, ↓reduceIte, Nat.reduceEqDiff, Nat.reduceLeDiff, Nat.reduceLT, Nat.reduceAdd, Nat.reduceSub, Nat.reduceMul, Int.reduceLT, Int.reduceLE, Int.reduceEq, Int.reduceAdd, Int.reduceSub, Int.reduceMul, Int.reduceNeg, Int.reduceToNat, reduceCtorEq, f9, f8, f0, f7, hjl, hlj, hget, hc, hwj]
            exact ⟨_, by omega, j + 1, rfl, by omega, by simp [v_pd], by simp [v_pd, f8, hsc], by simp [v_pd, f0], by simp [v_pd, f4], by simp [v_pd, f5], by simp [v_pd, f6], by simp [v_pd, f7, e7], rfl⟩
        · have hj64' : j = 64 := by omega
          subst hj64'
          rw [scan_end] at f8
          rw [e7] at f7
          rw [e4] at f4
          rw [e5] at f5
          rw [e6] at f6
          by_cases hj : fIdx letL l[i] < 0
          · simp only [↓STEP, SB, looked, behind, lookOk, AAct.kind, AOp.kind, wpRes, evRes, resV, AOp.ev, bin, binI, binS, shiftI, eqV, un, bound, boundO, fill, fillRows, aggOf, keyEq, findKey, putKey, V.cells, V.flat, byteOf, bytesOf, rdOf, H.wr, H.kOf, splice, isYl, ↓reduceIte, Nat.reduceEqDiff, Nat.reduceLeDiff, Nat.reduceLT, Nat.reduceAdd, Nat.reduceSub, Nat.reduceMul, Int.reduceLT, Int.reduceLE, Int.reduceEq, Int.reduceAdd, Int.reduceSub, Int.reduceMul, Int.reduceNeg, Int.reduceToNat, reduceCtorEq, f9, f8, f0, f7, hj]
            refine Abs.trans (Abs.out rfl rfl o.kept) (lost ?_)
            unfold decP
            rw [Dec.of_none (i := i + 1) (by rw [hstep0]; unfold Dec.more; rw [hval, if_neg (by omega)]; rfl)]
            rfl
          · obtain ⟨j, hje⟩ : ∃ j : Nat, fIdx letL l[i] = j := ⟨(fIdx letL l[i]).toNat, by omega⟩
            rw [hje] at f8 hval hj64
            have hj0 : ¬ (j : Int) < 0 := by omega
            have hstep : Dec.of (l.take (i + 1)) = some (s.step j) := by
              rw [hstep0]; unfold Dec.more; rw [hval, if_pos (by omega)]; rfl
            clear hstep0
            unfold Dec.step at hstep
            obtain ⟨w, k, out⟩ := s
            simp only at *
            have hw64 : w < 64 := by rcases hok with ⟨_, h⟩ | ⟨_, h⟩ | ⟨_, h⟩ | ⟨_, h⟩ <;> simp only at h <;> omega
            have hnl : n = out.length := o.len
            have m1 : Go.IntKind.wrap .i64 (64 * (w : Int)) = ((w * 64 : Nat) : Int) := by rw [wrap_i64 (by omega) (by omega)]; omega
            have m2 : Go.IntKind.wrap .i64 (((w * 64 : Nat) : Int) + (j : Int)) = ((w * 64 + j : Nat) : Int) := wrap_i64 (by omega) (by omega)
            have hW : w * 64 + j < 4096 := by omega
            have hWw : w * 64 + j < (w + 1) * 64 := by omega
            generalize hWe : w * 64 + j = W at *
            have finish : ∀ (t' : Tm) (g' : H), t'.v 7 = .i .i64 ((i : Int) + 1) → t'.v 0 = t2.v 0 → ∀ s' : Dec, Dec.of (l.take (i + 1)) = some s' → t'.v 5 = .i .i64 (s'.w : Nat) → t'.v 6 = .i .i64 (s'.k : Nat) →
                (∃ a n ex, t'.v 4 = .sl a n n ex ∧ OutX h g' a n ex s'.out) → ∃ m', m' < l.length - i ∧ DecLoop18 h l m' t' g' := by
              rintro t' g' q1 q3 s' q4 q5 q6 ⟨a', n', ex', q7, q8⟩
              exact ⟨_, by omega, i + 1, s', a', n', ex', rfl, by omega, by rw [q1]; rfl, by rw [q3, f0], q4, q5, q6, q7, q8⟩
            rcases hok with ⟨hk, hw⟩ | ⟨hk, hw⟩ | ⟨hk, hw⟩ | ⟨hk, hw⟩
            · simp only at hk hw
              subst hk
              have f6' : t2.v 6 = .i .i64 0 := f6
              simp only [if_true] at hstep
              have hwx : W % 64 = W := Nat.mod_eq_of_lt (by omega)
              rw [hwx] at hstep
              simp only [↓STEP, SB, looked, behind, lookOk, AAct.kind, AOp.kind, wpRes, evRes, resV, AOp.ev, bin, binI, binS, shiftI, eqV, un, bound, boundO, fill, fillRows, aggOf, keyEq, findKey, putKey, V.cells, V.flat, byteOf, bytesOf, rdOf, H.wr, H.kOf, splice, isYl, ↓reduceIte, Nat.reduceEqDiff, Nat.reduceLeDiff, Nat.reduceLT, Nat.reduceAdd, Nat.reduceSub, Nat.reduceMul, Int.reduceLT, Int.reduceLE, Int.reduceEq, Int.reduceAdd, Int.reduceSub, Int.reduceMul, Int.reduceNeg, Int.reduceToNat, reduceCtorEq, f9, f8, f0, f7, f4, f5, f6', hj0, m1, m2, hwr, wlits]
              exact finish _ _ (by simp [v_pd]) (by simp [v_pd]) _ hstep (by simp [v_pd]) (by simp [v_pd]) ⟨_, _, _, by simp [v_pd, f4], o⟩
            · simp only at hk hw
              subst hk
              have f6' : t2.v 6 = .i .i64 6 := f6
              simp only [if_true, show ¬ (6 = 0) by decide, if_false] at hstep
              have fd : Int.tdiv (W : Int) 16 = ((W / 16 : Nat) : Int) := tdiv_nat W 16
              have fm : Int.tmod (W : Int) 16 = ((W % 16 : Nat) : Int) := tmod_nat W 16
              have wq := wrap_nat (W / 16) (by omega)
              have wr8 : Go.IntKind.wrap .u8 ((W / 16 : Nat) : Int) = ((W / 16 : Nat) : Int) := wrap_u8 _ (by omega)
              have lt8 : ((W / 16 : Nat) : Int) < 256 := by omega
              obtain ⟨b', g', e1, o'⟩ := o.app1 (.bytes [UInt8.ofNat (W / 16)] false) (UInt8.ofNat (W / 16)) (by omega)
              simp only [↓STEP, SB, looked, behind, lookOk, AAct.kind, AOp.kind, wpRes, evRes, resV, AOp.ev, bin, binI, binS, shiftI, eqV, un, bound, boundO, fill, fillRows, aggOf, keyEq, findKey, putKey, V.cells, V.flat, byteOf, bytesOf, rdOf, H.wr, H.kOf, splice, isYl, ↓reduceIte, Nat.reduceEqDiff, Nat.reduceLeDiff, Nat.reduceLT, Nat.reduceAdd, Nat.reduceSub, Nat.reduceMul, Int.reduceLT, Int.reduceLE, Int.reduceEq, Int.reduceAdd, Int.reduceSub, Int.reduceMul, Int.reduceNeg, Int.reduceToNat, reduceCtorEq, f9, f8, f0, f7, f4, f5, f6', hj0, m1, m2, hwr, wlits]
              refine wpA_loop ?_
              simp only [↓STEP, SB, looked, behind, lookOk, AAct.kind, AOp.kind, wpRes, evRes, resV, AOp.ev, bin, binI, binS, shiftI, eqV, un, bound, boundO, fill, fillRows, aggOf, keyEq, findKey, putKey, V.cells, V.flat, byteOf, bytesOf, rdOf, H.wr, H.kOf, splice, isYl, ↓reduceIte, Nat.reduceEqDiff, Nat.reduceLeDiff, Nat.reduceLT, Nat.reduceAdd, Nat.reduceSub, Nat.reduceMul, Int.reduceLT, Int.reduceLE, Int.reduceEq, Int.reduceAdd, Int.reduceSub, Int.reduceMul, Int.reduceNeg, Int.reduceToNat, reduceCtorEq, f9, f8, f0, f7, f4, f5, f6', hj0, m1, m2, hwr, wlits]
              refine wpA_loop ?_
              simp only [↓STEP, SB, looked, behind, lookOk, AAct.kind, AOp.kind, wpRes, evRes, resV, AOp.ev, bin, binI, binS, shiftI, eqV, un, bound, boundO, fill, fillRows, aggOf, keyEq, findKey, putKey, V.cells, V.flat, byteOf, bytesOf, rdOf, H.wr, H.kOf, splice, isYl, ↓reduceIte, Nat.reduceEqDiff, Nat.reduceLeDiff, Nat.reduceLT, Nat.reduceAdd, Nat.reduceSub, Nat.reduceMul, Int.reduceLT, Int.reduceLE, Int.reduceEq, Int.reduceAdd, Int.reduceSub, Int.reduceMul, Int.reduceNeg, Int.reduceToNat, reduceCtorEq, f9, f8, f0, f7, f4, f5, f6', hj0, m1, m2, hwr, wlits]
              refine wpA_loop ?_
              simp only [↓STEP, SB, looked, behind, lookOk, AAct.kind, AOp.kind, wpRes, evRes, resV, AOp.ev, bin, binI, binS, shiftI, eqV, un, bound, boundO, fill, fillRows, aggOf, keyEq, findKey, putKey, V.cells, V.flat, byteOf, bytesOf, rdOf, H.wr, H.kOf, splice, isYl, ↓reduceIte, Nat.reduceEqDiff, Nat.reduceLeDiff, Nat.reduceLT, Nat.reduceAdd, Nat.reduceSub, Nat.reduceMul, Int.reduceLT, Int.reduceLE, Int.reduceEq, Int.reduceAdd, Int.reduceSub, Int.reduceMul, Int.reduceNeg, Int.reduceToNat, reduceCtorEq, f9, f8, f0, f7, f4, f5, f6', hj0, m1, m2, hwr, wlits]
              refine wpA_loop ?_
              simp only [↓STEP, SB, looked, behind, lookOk, AAct.kind, AOp.kind, wpRes, evRes, resV, AOp.ev, bin, binI, binS, shiftI, eqV, un, bound, boundO, fill, fillRows, aggOf, keyEq, findKey, putKey, V.cells, V.flat, byteOf, bytesOf, rdOf, H.wr, H.kOf, splice, isYl, ↓reduceIte, Nat.reduceEqDiff, Nat.reduceLeDiff, Nat.reduceLT, Nat.reduceAdd, Nat.reduceSub, Nat.reduceMul, Int.reduceLT, Int.reduceLE, Int.reduceEq, Int.reduceAdd, Int.reduceSub, Int.reduceMul, Int.reduceNeg, Int.reduceToNat, reduceCtorEq, f9, f8, f0, f7, f4, f5, f6', hj0, m1, m2, hwr, wlits]
              refine wpA_loop ?_
              simp only [↓STEP, SB, looked, behind, lookOk, AAct.kind, AOp.kind, wpRes, evRes, resV, AOp.ev, bin, binI, binS, shiftI, eqV, un, bound, boundO, fill, fillRows, aggOf, keyEq, findKey, putKey, V.cells, V.flat, byteOf, bytesOf, rdOf, H.wr, H.kOf, splice, isYl, ↓reduceIte, Nat.reduceEqDiff, Nat.reduceLeDiff, Nat.reduceLT, Nat.reduceAdd, Nat.reduceSub, Nat.reduceMul, Int.reduceLT, Int.reduceLE, Int.reduceEq, Int.reduceAdd, Int.reduceSub, Int.reduceMul, Int.reduceNeg, Int.reduceToNat, reduceCtorEq, f9, f8, f0, f7, f4, f5, f6', hj0, m1, m2, hwr, wlits, fd, fm, wq, wr8, lt8, List.flatten_cons, List.flatten_nil, bseg_tmp1, e1]
              exact finish _ _ (by simp [v_pd]) (by simp [v_pd]) _ hstep (by simp [v_pd]) (by simp [v_pd]) ⟨_, _, _, by simp [v_pd], o'⟩
            · simp only at hk hw
              subst hk
              have f6' : t2.v 6 = .i .i64 4 := f6
              simp only [if_true, show ¬ (4 = 0) by decide, show ¬ (4 = 6) by decide, if_false] at hstep
              have fd : Int.tdiv (W : Int) 4 = ((W / 4 : Nat) : Int) := tdiv_nat W 4
              have fm : Int.tmod (W : Int) 4 = ((W % 4 : Nat) : Int) := tmod_nat W 4
              have wq := wrap_nat (W / 4) (by omega)
              have wr8 : Go.IntKind.wrap .u8 ((W / 4 : Nat) : Int) = ((W / 4 : Nat) : Int) := wrap_u8 _ (by omega)
              have lt8 : ((W / 4 : Nat) : Int) < 256 := by omega
              obtain ⟨b', g', e1, o'⟩ := o.app1 (.bytes [UInt8.ofNat (W / 4)] false) (UInt8.ofNat (W / 4)) (by omega)
              simp only [↓STEP, SB, looked, behind, lookOk, AAct.kind, AOp.kind, wpRes, evRes, resV, AOp.ev, bin, binI, binS, shiftI, eqV, un, bound, boundO, fill, fillRows, aggOf, keyEq, findKey, putKey, V.cells, V.flat, byteOf, bytesOf, rdOf, H.wr, H.kOf, splice, isYl, ↓reduceIte, Nat.reduceEqDiff, Nat.reduceLeDiff, Nat.reduceLT, Nat.reduceAdd, Nat.reduceSub, Nat.reduceMul, Int.reduceLT, Int.reduceLE, Int.reduceEq, Int.reduceAdd, Int.reduceSub, Int.reduceMul, Int.reduceNeg, Int.reduceToNat, reduceCtorEq, f9, f8, f0, f7, f4, f5, f6', hj0, m1, m2, hwr, wlits]
              refine wpA_loop ?_
              simp only [↓STEP, SB, looked, behind, lookOk, AAct.kind, AOp.kind, wpRes, evRes, resV, AOp.ev, bin, binI, binS, shiftI, eqV, un, bound, boundO, fill, fillRows, aggOf, keyEq, findKey, putKey, V.cells, V.flat, byteOf, bytesOf, rdOf, H.wr, H.kOf, splice, isYl, ↓reduceIte, Nat.reduceEqDiff, Nat.reduceLeDiff, Nat.reduceLT, Nat.reduceAdd, Nat.reduceSub, Nat.reduceMul, Int.reduceLT, Int.reduceLE, Int.reduceEq, Int.reduceAdd, Int.reduceSub, Int.reduceMul, Int.reduceNeg, Int.reduceToNat, reduceCtorEq, f9, f8, f0, f7, f4, f5, f6', hj0, m1, m2, hwr, wlits]
              refine wpA_loop ?_
              simp only [↓STEP, SB, looked, behind, lookOk, AAct.kind, AOp.kind, wpRes, evRes, resV, AOp.ev, bin, binI, binS, shiftI, eqV, un, bound, boundO, fill, fillRows, aggOf, keyEq, findKey, putKey, V.cells, V.flat, byteOf, bytesOf, rdOf, H.wr, H.kOf, splice, isYl, ↓reduceIte, Nat.reduceEqDiff, Nat.reduceLeDiff, Nat.reduceLT, Nat.reduceAdd, Nat.reduceSub, Nat.reduceMul, Int.reduceLT, Int.reduceLE, Int.reduceEq, Int.reduceAdd, Int.reduceSub, Int.reduceMul, Int.reduceNeg, Int.reduceToNat, reduceCtorEq, f9, f8, f0, f7, f4, f5, f6', hj0, m1, m2, hwr, wlits]
              refine wpA_loop ?_
              simp only [↓STEP, SB, looked, behind, lookOk, AAct.kind, AOp.kind, wpRes, evRes, resV, AOp.ev, bin, binI, binS, shiftI, eqV, un, bound, boundO, fill, fillRows, aggOf, keyEq, findKey, putKey, V.cells, V.flat, byteOf, bytesOf, rdOf, H.wr, H.kOf, splice, isYl, ↓reduceIte, Nat.reduceEqDiff, Nat.reduceLeDiff, Nat.reduceLT, Nat.reduceAdd, Nat.reduceSub, Nat.reduceMul, Int.reduceLT, Int.reduceLE, Int.reduceEq, Int.reduceAdd, Int.reduceSub, Int.reduceMul, Int.reduceNeg, Int.reduceToNat, reduceCtorEq, f9, f8, f0, f7, f4, f5, f6', hj0, m1, m2, hwr, wlits, fd, fm, wq, wr8, lt8, List.flatten_cons, List.flatten_nil, bseg_tmp1, e1]
              exact finish _ _ (by simp [v_pd]) (by simp [v_pd]) _ hstep (by simp [v_pd]) (by simp [v_pd]) ⟨_, _, _, by simp [v_pd], o'⟩
            · simp only at hk hw
              subst hk
              have f6' : t2.v 6 = .i .i64 2 := f6
              simp only [show ¬ (2 = 0) by decide, show ¬ (2 = 6) by decide, show ¬ (2 = 4) by decide, if_false] at hstep
              have fd : Int.tdiv (W : Int) 1 = ((W / 1 : Nat) : Int) := tdiv_nat W 1
              have fm : Int.tmod (W : Int) 1 = ((W % 1 : Nat) : Int) := tmod_nat W 1
              have wq := wrap_nat (W / 1) (by omega)
              have wr8 : Go.IntKind.wrap .u8 ((W / 1 : Nat) : Int) = ((W / 1 : Nat) : Int) := wrap_u8 _ (by omega)
              have lt8 : ((W / 1 : Nat) : Int) < 256 := by omega
              obtain ⟨b', g', e1, o'⟩ := o.app1 (.bytes [UInt8.ofNat (W / 1)] false) (UInt8.ofNat (W / 1)) (by omega)
              simp only [↓STEP, SB, looked, behind, lookOk, AAct.kind, AOp.kind, wpRes, evRes, resV, AOp.ev, bin, binI, binS, shiftI, eqV, un, bound, boundO, fill, fillRows, aggOf, keyEq, findKey, putKey, V.cells, V.flat, byteOf, bytesOf, rdOf, H.wr, H.kOf, splice, isYl, ↓reduceIte, Nat.reduceEqDiff, Nat.reduceLeDiff, Nat.reduceLT, Nat.reduceAdd, Nat.reduceSub, Nat.reduceMul, Int.reduceLT, Int.reduceLE, Int.reduceEq, Int.reduceAdd, Int.reduceSub, Int.reduceMul, Int.reduceNeg, Int.reduceToNat, reduceCtorEq, f9, f8, f0, f7, f4, f5, f6', hj0, m1, m2, hwr, wlits]
              refine wpA_loop ?_
              simp only [↓STEP, SB, looked, behind, lookOk, AAct.kind, AOp.kind, wpRes, evRes, resV, AOp.ev, bin, binI, binS, shiftI, eqV, un, bound, boundO, fill, fillRows, aggOf, keyEq, findKey, putKey, V.cells, V.flat, byteOf, bytesOf, rdOf, H.wr, H.kOf, splice, isYl, ↓reduceIte, Nat.reduceEqDiff, Nat.reduceLeDiff, Nat.reduceLT, Nat.reduceAdd, Nat.reduceSub, Nat.reduceMul, Int.reduceLT, Int.reduceLE, Int.reduceEq, Int.reduceAdd, Int.reduceSub, Int.reduceMul, Int.reduceNeg, Int.reduceToNat, reduceCtorEq, f9, f8, f0, f7, f4, f5, f6', hj0, m1, m2, hwr, wlits, fd, fm, wq, wr8, lt8, List.flatten_cons, List.flatten_nil, bseg_tmp1, e1]
              exact finish _ _ (by simp [v_pd]) (by simp [v_pd]) _ hstep (by simp [v_pd]) (by simp [v_pd]) ⟨_, _, _, by simp [v_pd], o'⟩
      · exact ⟨0, rfl, by omega, by simp [v_pd], by simp [v_pd]; unfold scan; rw [if_neg (by omega)], by simp [v_pd, e0], by simp [v_pd], by simp [v_pd], by simp [v_pd], by simp [v_pd, e7], rfl⟩
    · have hil : i = l.length := by omega
      subst hil
      rw [List.take_length] at hs
      have hdp : decP l = if l.length % 4 = 1 ∨ s.w ≠ 0 then none else some s.out := by unfold decP; rw [hs]; rfl
      by_cases h2 : (s.w : Int) = 0
      · simp only [↓STEP, SB, looked, behind, lookOk, AAct.kind, AOp.kind, wpRes, evRes, resV, AOp.ev, bin, binI, binS, shiftI, eqV, un, bound, boundO, fill, fillRows, aggOf, keyEq, findKey, putKey, V.cells, V.flat, byteOf, bytesOf, rdOf, H.wr, H.kOf, splice, isYl, ↓reduceIte, Nat.reduceEqDiff, Nat.reduceLeDiff, Nat.reduceLT, Nat.reduceAdd, Nat.reduceSub, Nat.reduceMul, Int.reduceLT, Int.reduceLE, Int.reduceEq, Int.reduceAdd, Int.reduceSub, Int.reduceMul, Int.reduceNeg, Int.reduceToNat, reduceCtorEq, e7, e0, e5, e6, e4, hlt, h2]
        have hd : decP l = some s.out := by rw [hdp, if_neg (by omega)]
        rw [hd] at hg
        have hv := Option.some.inj hg
        rw [show v = (outV h s.out [.i .i64 0]).1 from by rw [hv], show h' = (outV h s.out [.i .i64 0]).2 from by rw [hv]]
        exact o.abs rfl
      · simp only [↓STEP, SB, looked, behind, lookOk, AAct.kind, AOp.kind, wpRes, evRes, resV, AOp.ev, bin, binI, binS, shiftI, eqV, un, bound, boundO, fill, fillRows, aggOf, keyEq, findKey, putKey, V.cells, V.flat, byteOf, bytesOf, rdOf, H.wr, H.kOf, splice, isYl, ↓reduceIte, Nat.reduceEqDiff, Nat.reduceLeDiff, Nat.reduceLT, Nat.reduceAdd, Nat.reduceSub, Nat.reduceMul, Int.reduceLT, Int.reduceLE, Int.reduceEq, Int.reduceAdd, Int.reduceSub, Int.reduceMul, Int.reduceNeg, Int.reduceToNat, reduceCtorEq, e7, e0, e5, e6, e4, hlt, h2]
        exact Abs.trans (Abs.out rfl rfl o.kept) (lost (by rw [hdp, if_pos (.inr (by omega))]))
  · exact ⟨0, ⟨0, 0, []⟩, none, 0, true, rfl, Nat.zero_le _, by simp [v_pd], by simp [v_pd, v_args_cons], rfl, by simp [v_pd], by simp [v_pd], by simp [v_pd], OutX.nil h⟩

end Am
