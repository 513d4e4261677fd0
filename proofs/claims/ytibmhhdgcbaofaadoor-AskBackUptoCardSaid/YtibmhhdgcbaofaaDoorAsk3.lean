/- base64 for URLs, read by the program. -/
import Derived.Test.YtibmhhdgcbaofaaDoorAsk2
namespace Am
set_option linter.unusedVariables false
set_option linter.unusedSimpArgs false
set_option maxRecDepth 20000
set_option maxHeartbeats 4000000
variable {pr : Prog}

def val6 (c : UInt8) : Option Nat := if 0 ≤ fIdx letL c then some (fIdx letL c).toNat else none
theorem fIdx_letL (c : UInt8) : fIdx letL c < 64 := by
  unfold fIdx
  split
  · rename_i i h
    have := (List.findIdx?_eq_some_iff_getElem.1 h).1
    have hl : letL.length = 64 := rfl
    omega
  · decide
structure Dec where
  w : Nat
  k : Nat
  out : List UInt8
def Dec.step (s : Dec) (n : Nat) : Dec :=
  if s.k = 0 then ⟨(s.w * 64 + n) % 64, 6, s.out⟩
  else if s.k = 6 then ⟨(s.w * 64 + n) % 16, 4, s.out ++ [UInt8.ofNat ((s.w * 64 + n) / 16)]⟩
  else if s.k = 4 then ⟨(s.w * 64 + n) % 4, 2, s.out ++ [UInt8.ofNat ((s.w * 64 + n) / 4)]⟩
  else ⟨0, 0, s.out ++ [UInt8.ofNat ((s.w * 64 + n) / 1)]⟩
def Dec.ok (s : Dec) : Prop := (s.k = 0 ∧ s.w = 0) ∨ (s.k = 6 ∧ s.w < 64) ∨ (s.k = 4 ∧ s.w < 16) ∨ (s.k = 2 ∧ s.w < 4)
/-- Reading on: behind a letter that is none all is lost. -/
def Dec.more (s : Option Dec) (c : UInt8) : Option Dec := s.bind fun s => (val6 c).map s.step
def Dec.of (l : List UInt8) : Option Dec := l.foldl Dec.more (some ⟨0, 0, []⟩)
def decP (l : List UInt8) : Option (List UInt8) := (Dec.of l).bind fun s => if l.length % 4 = 1 ∨ s.w ≠ 0 then none else some s.out
theorem Dec.step_ok {s : Dec} (h : s.ok) (n : Nat) : (s.step n).ok := by
  unfold Dec.step Dec.ok
  split
  · right; left; exact ⟨rfl, Nat.mod_lt _ (by decide)⟩
  · split
    · right; right; left; exact ⟨rfl, Nat.mod_lt _ (by decide)⟩
    · split
      · right; right; right; exact ⟨rfl, Nat.mod_lt _ (by decide)⟩
      · left; exact ⟨rfl, rfl⟩
theorem Dec.step_len (s : Dec) (n : Nat) : (s.step n).out.length ≤ s.out.length + 1 := by
  unfold Dec.step
  split
  · simp
  · split
    · simp
    · split <;> simp
theorem Dec.of_take {l : List UInt8} {i : Nat} (hi : i < l.length) : Dec.of (l.take (i + 1)) = Dec.more (Dec.of (l.take i)) l[i] := by
  unfold Dec.of
  rw [List.take_add_one, List.getElem?_eq_getElem hi, List.foldl_append]; rfl
theorem Dec.of_ok : ∀ (l : List UInt8) (i : Nat) (s : Dec), i ≤ l.length → Dec.of (l.take i) = some s → s.ok ∧ s.out.length ≤ i
  | l, 0, s, _, h => by cases h; exact ⟨.inl ⟨rfl, rfl⟩, Nat.le_refl _⟩
  | l, i + 1, s, h, hs => by
    rw [Dec.of_take (by omega)] at hs
    obtain ⟨s0, h0, hs⟩ := Option.bind_eq_some_iff.1 hs
    obtain ⟨n, hn, rfl⟩ := Option.map_eq_some_iff.1 hs
    obtain ⟨a, b⟩ := Dec.of_ok l i s0 (by omega) h0
    exact ⟨Dec.step_ok a _, by have := s0.step_len n; omega⟩
theorem Dec.none_fold : ∀ (l : List UInt8), l.foldl Dec.more none = none
  | [] => rfl
  | c :: l => Dec.none_fold l
theorem Dec.of_none {l : List UInt8} {i : Nat} (h : Dec.of (l.take i) = none) : Dec.of l = none := by
  have : Dec.of l = (l.drop i).foldl Dec.more (Dec.of (l.take i)) := by
    unfold Dec.of
    rw [← List.foldl_append, List.take_append_drop]
  rw [this, h, Dec.none_fold]

def gDec (ys : List V) (h : H) : Option (V × H) :=
  match ys with
  | [.s l] => if l.length ≤ 20000000 then
      match decP l with
      | none => some (.tup [.sl none 0 0 true, .i .i64 4], h)
      | some d => some (outV h d [.i .i64 0])
    else none
  | _ => none
theorem gDec_some {l d : List UInt8} {h : H} (hl : l.length ≤ 20000000) (hd : decP l = some d) : gDec [.s l] h = some (outV h d [.i .i64 0]) := by
  unfold gDec; simp only [if_pos hl, hd]
theorem wrap_u8 (x : Nat) (h : x < 256) : Go.IntKind.wrap .u8 (x : Int) = x := by
  unfold Go.IntKind.wrap
  simp only [Go.IntKind.bits, Go.IntKind.signed]
  simp
  omega

def DecLoop (h : H) (l : List UInt8) (m : Nat) (t : Tm) (g : H) : Prop :=
  ∃ (i : Nat) (s : Dec) (a : Option (Nat × Nat)) (n : Nat) (ex : Bool), m = l.length - i ∧ i ≤ l.length ∧ t.v 11 = .i .i64 (i : Nat) ∧ t.v 10 = .i .i64 l.length ∧ t.v 0 = .s l ∧ Dec.of (l.take i) = some s ∧ t.v 5 = .i .i64 (s.w : Nat) ∧ t.v 6 = .i .i64 (s.k : Nat) ∧
    t.v 4 = .sl a n n ex ∧ OutX h g a n ex s.out

theorem decode_ok {k : Nat} (hw : pr.ext k = some xIndexByte) : OkF pr (c_upgrade_Decode k) gDec := by
  intro ys h v h' hg
  unfold gDec at hg
  split at hg
  case h_2 => cases hg
  rename_i l
  split at hg
  case isFalse => cases hg
  rename_i hbig
  have hc := @wpCall_ext pr k _ hw
  have hx := xIndexByte_eq letL
  unfold wpF c_upgrade_Decode
  refine ⟨by simp, ?_⟩
  rw [show ([65, 66, 67, 68, 69, 70, 71, 72, 73, 74, 75, 76, 77, 78, 79, 80, 81, 82, 83, 84, 85, 86, 87, 88, 89, 90, 97, 98, 99, 100, 101, 102, 103, 104, 105, 106, 107, 108, 109, 110, 111, 112, 113, 114, 115, 116, 117, 118, 119, 120, 121, 122, 48, 49, 50, 51, 52, 53, 54, 55, 56, 57, 45, 95] : List UInt8) = letL from rfl]
  simp only [↓STEP, SB, looked, behind, lookOk, AAct.kind, AOp.kind, wpRes, evRes, resV, AOp.ev, bin, binI, binS, shiftI, eqV, un, bound, boundO, fill, fillRows, aggOf, keyEq, findKey, putKey, V.cells, V.flat, byteOf, bytesOf, rdOf, H.wr, H.kOf, splice, isYl, ↓reduceIte, Nat.reduceEqDiff, Nat.reduceLeDiff, Nat.reduceLT, Nat.reduceAdd, Nat.reduceSub, Nat.reduceMul, Int.reduceLT, Int.reduceLE, Int.reduceEq, Int.reduceAdd, Int.reduceSub, Int.reduceMul, Int.reduceNeg, Int.reduceToNat, reduceCtorEq]
  have lost : decP l = none → Abs h (.tup [.sl none 0 0 true, .i .i64 4]) h v h' := fun hd => by
    rw [hd] at hg
    cases hg
    exact Abs.refl
  refine wpA_loop_inv (DecLoop h l) ?_ (m := l.length) ?_
  · rintro m t g ⟨i, s, a, n, ex, rfl, hi, e11, e10, e0, hs, e5, e6, e4, o⟩
    obtain ⟨hok, hol⟩ := Dec.of_ok l i s hi hs
    by_cases hlt : (i : Int) < l.length
    · have hil : i < l.length := by omega
      have hget : l[i]? = some l[i] := List.getElem?_eq_getElem hil
      have hwr : Go.IntKind.wrap .i64 ((i : Int) + 1) = (i : Int) + 1 := wrap_i64 (by omega) (by omega)
      have hstep0 := Dec.of_take hil
      rw [hs] at hstep0
      have hval : val6 l[i] = if 0 ≤ fIdx letL l[i] then some (fIdx letL l[i]).toNat else none := rfl
      have hj64 := fIdx_letL l[i]
      have hx := hx l[i]
      by_cases hj : fIdx letL l[i] < 0
      · simp only [↓STEP, SB, looked, behind, lookOk, AAct.kind, AOp.kind, wpRes, evRes, resV, AOp.ev, bin, binI, binS, shiftI, eqV, un, bound, boundO, fill, fillRows, aggOf, keyEq, findKey, putKey, V.cells, V.flat, byteOf, bytesOf, rdOf, H.wr, H.kOf, splice, isYl, ↓reduceIte, Nat.reduceEqDiff, Nat.reduceLeDiff, Nat.reduceLT, Nat.reduceAdd, Nat.reduceSub, Nat.reduceMul, Int.reduceLT, Int.reduceLE, Int.reduceEq, Int.reduceAdd, Int.reduceSub, Int.reduceMul, Int.reduceNeg, Int.reduceToNat, reduceCtorEq, hc, hx, e11, e10, e0, hlt, hget, hj]
        refine Abs.trans (Abs.out rfl rfl o.kept) (lost ?_)
        unfold decP
        rw [Dec.of_none (i := i + 1) (by rw [hstep0]; unfold Dec.more; rw [hval, if_neg (by omega)]; rfl)]
        rfl
      · obtain ⟨j, hje⟩ : ∃ j : Nat, fIdx letL l[i] = j := ⟨(fIdx letL l[i]).toNat, by omega⟩
        rw [hje] at hx hval hj64
        have hj0 : ¬ (j : Int) < 0 := by omega
        have hstep : Dec.of (l.take (i + 1)) = some (s.step j) := by
          rw [hstep0]; unfold Dec.more; rw [hval, if_pos (by omega)]; rfl
        clear hstep0
        unfold Dec.step at hstep
        obtain ⟨w, k, out⟩ := s
        simp only at *
        have hw64 : w < 64 := by rcases hok with ⟨_, h⟩ | ⟨_, h⟩ | ⟨_, h⟩ | ⟨_, h⟩ <;> simp only at h <;> omega
        have hnl : n = out.length := o.len
        have p6 : Go.IntKind.wrap .i64 ((w : Int) * 64) = ((w * 64 : Nat) : Int) := wrap_nat (w * 64) (by omega)
        have o6 := or6 w j (by omega) (by omega)
        have hW : w * 64 + j < 4096 := by omega
        have hWw : w * 64 + j < (w + 1) * 64 := by omega
        generalize hWe : w * 64 + j = W at *
        have finish : ∀ (t' : Tm) (g' : H), t'.v 11 = .i .i64 ((i : Int) + 1) → t'.v 10 = t.v 10 → t'.v 0 = t.v 0 → ∀ s' : Dec, Dec.of (l.take (i + 1)) = some s' → t'.v 5 = .i .i64 (s'.w : Nat) → t'.v 6 = .i .i64 (s'.k : Nat) →
            (∃ a n ex, t'.v 4 = .sl a n n ex ∧ OutX h g' a n ex s'.out) → ∃ m', m' < l.length - i ∧ DecLoop h l m' t' g' := by
          rintro t' g' q1 q2 q3 s' q4 q5 q6 ⟨a', n', ex', q7, q8⟩
          exact ⟨_, by omega, i + 1, s', a', n', ex', rfl, by omega, by rw [q1]; rfl, by rw [q2, e10], by rw [q3, e0], q4, q5, q6, q7, q8⟩
        rcases hok with ⟨hk, hw⟩ | ⟨hk, hw⟩ | ⟨hk, hw⟩ | ⟨hk, hw⟩
        · simp only at hk hw
          subst hk
          have e6' : t.v 6 = .i .i64 0 := e6
          simp only [↓STEP, SB, looked, behind, lookOk, AAct.kind, AOp.kind, wpRes, evRes, resV, AOp.ev, bin, binI, binS, shiftI, eqV, un, bound, boundO, fill, fillRows, aggOf, keyEq, findKey, putKey, V.cells, V.flat, byteOf, bytesOf, rdOf, H.wr, H.kOf, splice, isYl, ↓reduceIte, Nat.reduceEqDiff, Nat.reduceLeDiff, Nat.reduceLT, Nat.reduceAdd, Nat.reduceSub, Nat.reduceMul, Int.reduceLT, Int.reduceLE, Int.reduceEq, Int.reduceAdd, Int.reduceSub, Int.reduceMul, Int.reduceNeg, Int.reduceToNat, reduceCtorEq, hc, hx, e11, e10, e0, e5, e6', e4, hlt, hget, hj0, wlits, nmins, Int.reducePow, p6, o6, hwr, and63 W (by omega)]
          simp only [if_true] at hstep
          exact finish _ _ (by simp [v_pd]) (by simp [v_pd]) (by simp [v_pd]) _ hstep (by simp [v_pd]) (by simp [v_pd]) ⟨_, _, _, by simp [v_pd, e4], o⟩
        · simp only at hk hw
          subst hk
          have e6' : t.v 6 = .i .i64 6 := e6
          have fd : Int.fdiv (W : Int) 16 = ((W / 16 : Nat) : Int) := fdiv_nat W 16
          have wr8 : Go.IntKind.wrap .u8 ((W / 16 : Nat) : Int) = ((W / 16 : Nat) : Int) := wrap_u8 _ (by omega)
          have lt8 : ((W / 16 : Nat) : Int) < 256 := by omega
          obtain ⟨b', g', e1, o'⟩ := o.app1 (.bytes [UInt8.ofNat (W / 16)] false) (UInt8.ofNat (W / 16)) (by omega)
          simp only [↓STEP, SB, looked, behind, lookOk, AAct.kind, AOp.kind, wpRes, evRes, resV, AOp.ev, bin, binI, binS, shiftI, eqV, un, bound, boundO, fill, fillRows, aggOf, keyEq, findKey, putKey, V.cells, V.flat, byteOf, bytesOf, rdOf, H.wr, H.kOf, splice, isYl, ↓reduceIte, Nat.reduceEqDiff, Nat.reduceLeDiff, Nat.reduceLT, Nat.reduceAdd, Nat.reduceSub, Nat.reduceMul, Int.reduceLT, Int.reduceLE, Int.reduceEq, Int.reduceAdd, Int.reduceSub, Int.reduceMul, Int.reduceNeg, Int.reduceToNat, reduceCtorEq, hc, hx, e11, e10, e0, e5, e6', e4, hlt, hget, hj0, wlits, nmins, Int.reducePow, p6, o6, hwr, fd, wr8, lt8, List.flatten_cons, List.flatten_nil, bseg_tmp1, e1, and15 W (by omega)]
          simp only [if_true, show ¬ (6 = 0) by decide, if_false] at hstep
          exact finish _ _ (by simp [v_pd]) (by simp [v_pd]) (by simp [v_pd]) _ hstep (by simp [v_pd]) (by simp [v_pd]) ⟨_, _, _, by simp [v_pd], o'⟩
        · simp only at hk hw
          subst hk
          have e6' : t.v 6 = .i .i64 4 := e6
          have fd : Int.fdiv (W : Int) 4 = ((W / 4 : Nat) : Int) := fdiv_nat W 4
          have wr8 : Go.IntKind.wrap .u8 ((W / 4 : Nat) : Int) = ((W / 4 : Nat) : Int) := wrap_u8 _ (by omega)
          have lt8 : ((W / 4 : Nat) : Int) < 256 := by omega
          obtain ⟨b', g', e1, o'⟩ := o.app1 (.bytes [UInt8.ofNat (W / 4)] false) (UInt8.ofNat (W / 4)) (by omega)
          simp only [↓STEP, SB, looked, behind, lookOk, AAct.kind, AOp.kind, wpRes, evRes, resV, AOp.ev, bin, binI, binS, shiftI, eqV, un, bound, boundO, fill, fillRows, aggOf, keyEq, findKey, putKey, V.cells, V.flat, byteOf, bytesOf, rdOf, H.wr, H.kOf, splice, isYl, ↓reduceIte, Nat.reduceEqDiff, Nat.reduceLeDiff, Nat.reduceLT, Nat.reduceAdd, Nat.reduceSub, Nat.reduceMul, Int.reduceLT, Int.reduceLE, Int.reduceEq, Int.reduceAdd, Int.reduceSub, Int.reduceMul, Int.reduceNeg, Int.reduceToNat, reduceCtorEq, hc, hx, e11, e10, e0, e5, e6', e4, hlt, hget, hj0, wlits, nmins, Int.reducePow, p6, o6, hwr, fd, wr8, lt8, List.flatten_cons, List.flatten_nil, bseg_tmp1, e1, and3 W (by omega)]
          simp only [if_true, show ¬ (4 = 0) by decide, show ¬ (4 = 6) by decide, if_false] at hstep
          exact finish _ _ (by simp [v_pd]) (by simp [v_pd]) (by simp [v_pd]) _ hstep (by simp [v_pd]) (by simp [v_pd]) ⟨_, _, _, by simp [v_pd], o'⟩
        · simp only at hk hw
          subst hk
          have e6' : t.v 6 = .i .i64 2 := e6
          have fd : Int.fdiv (W : Int) 1 = ((W / 1 : Nat) : Int) := by have := fdiv_nat W 1; exact this
          have wr8 : Go.IntKind.wrap .u8 ((W / 1 : Nat) : Int) = ((W / 1 : Nat) : Int) := wrap_u8 _ (by omega)
          have lt8 : ((W / 1 : Nat) : Int) < 256 := by omega
          obtain ⟨b', g', e1, o'⟩ := o.app1 (.bytes [UInt8.ofNat (W / 1)] false) (UInt8.ofNat (W / 1)) (by omega)
          simp only [↓STEP, SB, looked, behind, lookOk, AAct.kind, AOp.kind, wpRes, evRes, resV, AOp.ev, bin, binI, binS, shiftI, eqV, un, bound, boundO, fill, fillRows, aggOf, keyEq, findKey, putKey, V.cells, V.flat, byteOf, bytesOf, rdOf, H.wr, H.kOf, splice, isYl, ↓reduceIte, Nat.reduceEqDiff, Nat.reduceLeDiff, Nat.reduceLT, Nat.reduceAdd, Nat.reduceSub, Nat.reduceMul, Int.reduceLT, Int.reduceLE, Int.reduceEq, Int.reduceAdd, Int.reduceSub, Int.reduceMul, Int.reduceNeg, Int.reduceToNat, reduceCtorEq, hc, hx, e11, e10, e0, e5, e6', e4, hlt, hget, hj0, wlits, nmins, Int.reducePow, p6, o6, hwr, fd, wr8, lt8, List.flatten_cons, List.flatten_nil, bseg_tmp1, e1, and0 W (by omega)]
          simp only [show ¬ (2 = 0) by decide, show ¬ (2 = 6) by decide, show ¬ (2 = 4) by decide, if_false] at hstep
          exact finish _ _ (by simp [v_pd]) (by simp [v_pd]) (by simp [v_pd]) _ hstep (by simp [v_pd]) (by simp [v_pd]) ⟨_, _, _, by simp [v_pd], o'⟩
    · have hil : i = l.length := by omega
      subst hil
      rw [List.take_length] at hs
      have hdp : decP l = if l.length % 4 = 1 ∨ s.w ≠ 0 then none else some s.out := by unfold decP; rw [hs]; rfl
      have hr4 : Int.tmod (l.length : Int) 4 = ((l.length % 4 : Nat) : Int) := by rw [Int.tmod_eq_emod_of_nonneg (by omega)]; rfl
      by_cases h1 : ((l.length % 4 : Nat) : Int) = 1
      · simp only [↓STEP, SB, looked, behind, lookOk, AAct.kind, AOp.kind, wpRes, evRes, resV, AOp.ev, bin, binI, binS, shiftI, eqV, un, bound, boundO, fill, fillRows, aggOf, keyEq, findKey, putKey, V.cells, V.flat, byteOf, bytesOf, rdOf, H.wr, H.kOf, splice, isYl, ↓reduceIte, Nat.reduceEqDiff, Nat.reduceLeDiff, Nat.reduceLT, Nat.reduceAdd, Nat.reduceSub, Nat.reduceMul, Int.reduceLT, Int.reduceLE, Int.reduceEq, Int.reduceAdd, Int.reduceSub, Int.reduceMul, Int.reduceNeg, Int.reduceToNat, reduceCtorEq, e11, e10, e0, e5, e6, e4, hlt, hr4, h1]
        exact Abs.trans (Abs.out rfl rfl o.kept) (lost (by rw [hdp, if_pos (.inl (by omega))]))
      · by_cases h2 : (s.w : Int) = 0
        · simp only [↓STEP, SB, looked, behind, lookOk, AAct.kind, AOp.kind, wpRes, evRes, resV, AOp.ev, bin, binI, binS, shiftI, eqV, un, bound, boundO, fill, fillRows, aggOf, keyEq, findKey, putKey, V.cells, V.flat, byteOf, bytesOf, rdOf, H.wr, H.kOf, splice, isYl, ↓reduceIte, Nat.reduceEqDiff, Nat.reduceLeDiff, Nat.reduceLT, Nat.reduceAdd, Nat.reduceSub, Nat.reduceMul, Int.reduceLT, Int.reduceLE, Int.reduceEq, Int.reduceAdd, Int.reduceSub, Int.reduceMul, Int.reduceNeg, Int.reduceToNat, reduceCtorEq, e11, e10, e0, e5, e6, e4, hlt, hr4, h1, h2]
          have hd : decP l = some s.out := by rw [hdp, if_neg (by omega)]
          rw [hd] at hg
          have hv := Option.some.inj hg
          rw [show v = (outV h s.out [.i .i64 0]).1 from by rw [hv], show h' = (outV h s.out [.i .i64 0]).2 from by rw [hv]]
          exact o.abs rfl
        · simp only [↓STEP, SB, looked, behind, lookOk, AAct.kind, AOp.kind, wpRes, evRes, resV, AOp.ev, bin, binI, binS, shiftI, eqV, un, bound, boundO, fill, fillRows, aggOf, keyEq, findKey, putKey, V.cells, V.flat, byteOf, bytesOf, rdOf, H.wr, H.kOf, splice, isYl, ↓reduceIte, Nat.reduceEqDiff, Nat.reduceLeDiff, Nat.reduceLT, Nat.reduceAdd, Nat.reduceSub, Nat.reduceMul, Int.reduceLT, Int.reduceLE, Int.reduceEq, Int.reduceAdd, Int.reduceSub, Int.reduceMul, Int.reduceNeg, Int.reduceToNat, reduceCtorEq, e11, e10, e0, e5, e6, e4, hlt, hr4, h1, h2]
          exact Abs.trans (Abs.out rfl rfl o.kept) (lost (by rw [hdp, if_pos (.inr (by omega))]))
  · exact ⟨0, ⟨0, 0, []⟩, none, 0, true, rfl, Nat.zero_le _, by simp [v_pd], by simp [v_pd, v_args_cons], by simp [v_pd, v_args_cons], rfl, by simp [v_pd], by simp [v_pd], by simp [v_pd], OutX.nil h⟩

end Am
