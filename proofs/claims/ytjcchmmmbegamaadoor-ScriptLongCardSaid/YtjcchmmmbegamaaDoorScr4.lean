/- Script texts: fields read, in the program. -/
import Derived.Test.YtjcchmmmbegamaaDoorScr3
namespace Am
set_option linter.unusedVariables false
set_option linter.unusedSimpArgs false
set_option maxRecDepth 20000
set_option maxHeartbeats 4000000
variable {pr : Prog}

def trimP (l p : List UInt8) : List UInt8 := if p.length ≤ l.length ∧ l.take p.length = p then l.drop p.length else l
def gTrimP (ys : List V) (h : H) : Option (V × H) :=
  match ys with
  | [.s l, .s p] => some (.s (trimP l p), h)
  | _ => none
theorem gTrimP_eq (l p : List UInt8) (h : H) : gTrimP [.s l, .s p] h = some (.s (trimP l p), h) := rfl
theorem trimPS_ok {kh : Nat} (hh : pr.ext kh = some gPre) : OkF pr (c_stringslite_TrimPrefix kh) gTrimP := by
  intro ys h v h' hg
  unfold gTrimP at hg
  split at hg
  case h_2 => cases hg
  rename_i l p
  cases hg
  unfold wpF c_stringslite_TrimPrefix
  refine ⟨by simp, ?_⟩
  have hc0 := @wpCall_ext pr kh gPre hh
  unfold trimP
  by_cases hp : p.length ≤ l.length ∧ l.take p.length = p
  · have hx : ∀ g', gPre [.s l, .s p] g' = some (.b true, g') := fun g' => by rw [gPre_eq]; exact congrArg (fun b => some (V.b b, g')) (decide_eq_true hp)
    have hle : (p.length : Int) ≤ (l.length : Int) := by omega
    have h0 : (0 : Int) ≤ (p.length : Int) := by omega
    rw [if_pos hp]
    simp only [↓STEP, SB, looked, behind, lookOk, AAct.kind, AOp.kind, wpRes, evRes, resV, AOp.ev, bin, binI, binS, shiftI, eqV, un, bound, boundO, fill, fillRows, aggOf, keyEq, findKey, putKey, V.cells, V.flat, byteOf, bytesOf, rdOf, H.wr, H.kOf, splice, isYl, ↓reduceIte, Nat.reduceEqDiff, Nat.reduceLeDiff, Nat.reduceLT, Nat.reduceAdd, Nat.reduceSub, Nat.reduceMul, Int.reduceLT, Int.reduceLE, Int.reduceEq, Int.reduceAdd, Int.reduceSub, Int.reduceMul, Int.reduceNeg, Int.reduceToNat, reduceCtorEq, hc0, hx, hle, h0, List.take_length, Int.toNat_natCast]
    exact Abs.out rfl rfl Kept.refl
  · have hx : ∀ g', gPre [.s l, .s p] g' = some (.b false, g') := fun g' => by rw [gPre_eq]; exact congrArg (fun b => some (V.b b, g')) (decide_eq_false hp)
    rw [if_neg hp]
    simp only [↓STEP, SB, looked, behind, lookOk, AAct.kind, AOp.kind, wpRes, evRes, resV, AOp.ev, bin, binI, binS, shiftI, eqV, un, bound, boundO, fill, fillRows, aggOf, keyEq, findKey, putKey, V.cells, V.flat, byteOf, bytesOf, rdOf, H.wr, H.kOf, splice, isYl, ↓reduceIte, Nat.reduceEqDiff, Nat.reduceLeDiff, Nat.reduceLT, Nat.reduceAdd, Nat.reduceSub, Nat.reduceMul, Int.reduceLT, Int.reduceLE, Int.reduceEq, Int.reduceAdd, Int.reduceSub, Int.reduceMul, Int.reduceNeg, Int.reduceToNat, reduceCtorEq, hc0, hx]
    exact Abs.out rfl rfl Kept.refl
theorem trimP_ok {kh : Nat} (hh : pr.ext kh = some gTrimP) : OkF pr (c_strings_TrimPrefix kh) gTrimP := by
  intro ys h v h' hg
  unfold gTrimP at hg
  split at hg
  case h_2 => cases hg
  rename_i l p
  cases hg
  unfold wpF c_strings_TrimPrefix
  refine ⟨by simp, ?_⟩
  have hc0 := @wpCall_ext pr kh gTrimP hh
  have hx := gTrimP_eq l p
  simp only [↓STEP, SB, looked, behind, lookOk, AAct.kind, AOp.kind, wpRes, evRes, resV, AOp.ev, bin, binI, binS, shiftI, eqV, un, bound, boundO, fill, fillRows, aggOf, keyEq, findKey, putKey, V.cells, V.flat, byteOf, bytesOf, rdOf, H.wr, H.kOf, splice, isYl, ↓reduceIte, Nat.reduceEqDiff, Nat.reduceLeDiff, Nat.reduceLT, Nat.reduceAdd, Nat.reduceSub, Nat.reduceMul, Int.reduceLT, Int.reduceLE, Int.reduceEq, Int.reduceAdd, Int.reduceSub, Int.reduceMul, Int.reduceNeg, Int.reduceToNat, reduceCtorEq, hc0, hx]
  exact Abs.out rfl rfl Kept.refl

def badV : V := .tup [.agg [.s [], .s [], .b false], .s [], .b false]
def oneV (l : List UInt8) : V :=
  match cutF l with
  | some (n, c :: r) =>
    if c = 61 then
      match cutF r with
      | some (v, c2 :: r2) => if c2 = 33 then .tup [.agg [.s n, .s v, .b true], .s r2, .b true] else .tup [.agg [.s n, .s v, .b false], .s (c2 :: r2), .b true]
      | some (v, []) => .tup [.agg [.s n, .s v, .b false], .s [], .b true]
      | none => .tup [.agg [.s n, .s [], .b false], .s [], .b false]
    else badV
  | _ => badV
def gOne (ys : List V) (h : H) : Option (V × H) :=
  match ys with
  | [.s l] => if l.length ≤ 100000000 then some (oneV l, h) else none
  | _ => none
theorem gOne_eq {l : List UInt8} {h : H} (hl : l.length ≤ 100000000) : gOne [.s l] h = some (oneV l, h) := if_pos hl
theorem one_ok {kc kh kt : Nat} (hcu : pr.ext kc = some gCut2) (hh : pr.ext kh = some gPre) (ht : pr.ext kt = some gTrimP) : OkF pr (c_script_one kc kh kt) gOne := by
  intro ys h v h' hg
  unfold gOne at hg
  split at hg
  case h_2 => cases hg
  rename_i l
  split at hg
  case isFalse => cases hg
  rename_i hbig
  cases hg
  unfold wpF c_script_one
  refine ⟨by simp, ?_⟩
  have hc0 := @wpCall_ext pr kc gCut2 hcu
  have hc1 := @wpCall_ext pr kh gPre hh
  have hc2 := @wpCall_ext pr kt gTrimP ht
  have hx : ∀ g', gCut2 [.s l] g' = some (cut2V (cutF l), g') := fun g' => gCut2_eq hbig
  unfold oneV badV
  cases hC : cutF l with
  | none =>
    rw [hC] at hx
    simp only [↓STEP, SB, looked, behind, lookOk, AAct.kind, AOp.kind, wpRes, evRes, resV, AOp.ev, bin, binI, binS, shiftI, eqV, un, bound, boundO, fill, fillRows, aggOf, keyEq, findKey, putKey, V.cells, V.flat, byteOf, bytesOf, rdOf, H.wr, H.kOf, splice, isYl, ↓reduceIte, Nat.reduceEqDiff, Nat.reduceLeDiff, Nat.reduceLT, Nat.reduceAdd, Nat.reduceSub, Nat.reduceMul, Int.reduceLT, Int.reduceLE, Int.reduceEq, Int.reduceAdd, Int.reduceSub, Int.reduceMul, Int.reduceNeg, Int.reduceToNat, reduceCtorEq, hc0, hx, cut2V]
    exact Abs.out rfl rfl (by (repeat (first | exact Kept.refl | apply Kept.push | refine Kept.kill ?_ (by omega) | refine Kept.set ?_ (by omega))))
  | some p =>
    obtain ⟨n, s⟩ := p
    rw [hC] at hx
    have hlen := cutF_len hC
    cases s with
    | nil =>
      have hx1 : ∀ g', gPre [.s [], .s [61]] g' = some (.b false, g') := fun g' => rfl
      simp only [↓STEP, SB, looked, behind, lookOk, AAct.kind, AOp.kind, wpRes, evRes, resV, AOp.ev, bin, binI, binS, shiftI, eqV, un, bound, boundO, fill, fillRows, aggOf, keyEq, findKey, putKey, V.cells, V.flat, byteOf, bytesOf, rdOf, H.wr, H.kOf, splice, isYl, ↓reduceIte, Nat.reduceEqDiff, Nat.reduceLeDiff, Nat.reduceLT, Nat.reduceAdd, Nat.reduceSub, Nat.reduceMul, Int.reduceLT, Int.reduceLE, Int.reduceEq, Int.reduceAdd, Int.reduceSub, Int.reduceMul, Int.reduceNeg, Int.reduceToNat, reduceCtorEq, hc0, hx, cut2V, hc1, hx1]
      exact Abs.out rfl rfl (by (repeat (first | exact Kept.refl | apply Kept.push | refine Kept.kill ?_ (by omega) | refine Kept.set ?_ (by omega))))
    | cons c r =>
      simp only [List.length_cons] at hlen
      by_cases h61 : c = 61
      · subst h61
        simp only [if_true]
        generalize hs : (61 :: r : List UInt8) = s at hx
        have hx1 : ∀ g', gPre [.s s, .s [61]] g' = some (.b true, g') := fun g' => by rw [gPre_eq, ← hs]; simp
        have h1s : (1 : Int) ≤ (s.length : Int) := by rw [← hs]; simp; omega
        have hsd : s.drop 1 = r := by rw [← hs]; rfl
        have hx2 : ∀ g', gCut2 [.s r] g' = some (cut2V (cutF r), g') := fun g' => gCut2_eq (by omega)
        cases hC2 : cutF r with
        | none =>
          rw [hC2] at hx2
          have hx3 := gTrimP_eq [] [33]
          simp only [↓STEP, SB, looked, behind, lookOk, AAct.kind, AOp.kind, wpRes, evRes, resV, AOp.ev, bin, binI, binS, shiftI, eqV, un, bound, boundO, fill, fillRows, aggOf, keyEq, findKey, putKey, V.cells, V.flat, byteOf, bytesOf, rdOf, H.wr, H.kOf, splice, isYl, ↓reduceIte, Nat.reduceEqDiff, Nat.reduceLeDiff, Nat.reduceLT, Nat.reduceAdd, Nat.reduceSub, Nat.reduceMul, Int.reduceLT, Int.reduceLE, Int.reduceEq, Int.reduceAdd, Int.reduceSub, Int.reduceMul, Int.reduceNeg, Int.reduceToNat, reduceCtorEq, hc0, hx, cut2V, hc1, hx1, h1s, List.take_length, hsd, hx2, hc2, hx3, show trimP [] [33] = [] from rfl]
          exact Abs.out rfl rfl (by (repeat (first | exact Kept.refl | apply Kept.push | refine Kept.kill ?_ (by omega) | refine Kept.set ?_ (by omega))))
        | some p2 =>
          obtain ⟨v, r1⟩ := p2
          rw [hC2] at hx2
          have hx3 := gTrimP_eq r1 [33]
          cases r1 with
          | nil =>
            simp only [↓STEP, SB, looked, behind, lookOk, AAct.kind, AOp.kind, wpRes, evRes, resV, AOp.ev, bin, binI, binS, shiftI, eqV, un, bound, boundO, fill, fillRows, aggOf, keyEq, findKey, putKey, V.cells, V.flat, byteOf, bytesOf, rdOf, H.wr, H.kOf, splice, isYl, ↓reduceIte, Nat.reduceEqDiff, Nat.reduceLeDiff, Nat.reduceLT, Nat.reduceAdd, Nat.reduceSub, Nat.reduceMul, Int.reduceLT, Int.reduceLE, Int.reduceEq, Int.reduceAdd, Int.reduceSub, Int.reduceMul, Int.reduceNeg, Int.reduceToNat, reduceCtorEq, hc0, hx, cut2V, hc1, hx1, h1s, List.take_length, hsd, hx2, hc2, hx3, show trimP [] [33] = [] from rfl]
            exact Abs.out rfl rfl (by (repeat (first | exact Kept.refl | apply Kept.push | refine Kept.kill ?_ (by omega) | refine Kept.set ?_ (by omega))))
          | cons c2 r2 =>
            by_cases h33 : c2 = 33
            · subst h33
              have hne : ¬ r2 = 33 :: r2 := fun hh => by have := congrArg List.length hh; simp at this
              simp only [↓STEP, SB, looked, behind, lookOk, AAct.kind, AOp.kind, wpRes, evRes, resV, AOp.ev, bin, binI, binS, shiftI, eqV, un, bound, boundO, fill, fillRows, aggOf, keyEq, findKey, putKey, V.cells, V.flat, byteOf, bytesOf, rdOf, H.wr, H.kOf, splice, isYl, ↓reduceIte, Nat.reduceEqDiff, Nat.reduceLeDiff, Nat.reduceLT, Nat.reduceAdd, Nat.reduceSub, Nat.reduceMul, Int.reduceLT, Int.reduceLE, Int.reduceEq, Int.reduceAdd, Int.reduceSub, Int.reduceMul, Int.reduceNeg, Int.reduceToNat, reduceCtorEq, hc0, hx, cut2V, hc1, hx1, h1s, List.take_length, hsd, hx2, hc2, hx3, show trimP (33 :: r2) [33] = r2 by simp [trimP], hne]
              exact Abs.out rfl rfl (by (repeat (first | exact Kept.refl | apply Kept.push | refine Kept.kill ?_ (by omega) | refine Kept.set ?_ (by omega))))
            · have htr : trimP (c2 :: r2) [33] = c2 :: r2 := by
                unfold trimP
                rw [if_neg]
                rintro ⟨_, h2⟩
                simp at h2; exact h33 h2
              simp only [↓STEP, SB, looked, behind, lookOk, AAct.kind, AOp.kind, wpRes, evRes, resV, AOp.ev, bin, binI, binS, shiftI, eqV, un, bound, boundO, fill, fillRows, aggOf, keyEq, findKey, putKey, V.cells, V.flat, byteOf, bytesOf, rdOf, H.wr, H.kOf, splice, isYl, ↓reduceIte, Nat.reduceEqDiff, Nat.reduceLeDiff, Nat.reduceLT, Nat.reduceAdd, Nat.reduceSub, Nat.reduceMul, Int.reduceLT, Int.reduceLE, Int.reduceEq, Int.reduceAdd, Int.reduceSub, Int.reduceMul, Int.reduceNeg, Int.reduceToNat, reduceCtorEq, hc0, hx, cut2V, hc1, hx1, h1s, List.take_length, hsd, hx2, hc2, hx3, htr, h33]
              exact Abs.out rfl rfl (by (repeat (first | exact Kept.refl | apply Kept.push | refine Kept.kill ?_ (by omega) | refine Kept.set ?_ (by omega))))
      · have hx1 : ∀ g', gPre [.s (c :: r), .s [61]] g' = some (.b false, g') := fun g' => by
          rw [gPre_eq]
          refine congrArg (fun b => some (V.b b, g')) (decide_eq_false ?_)
          rintro ⟨_, h2⟩
          simp at h2; exact h61 h2
        simp only [↓STEP, SB, looked, behind, lookOk, AAct.kind, AOp.kind, wpRes, evRes, resV, AOp.ev, bin, binI, binS, shiftI, eqV, un, bound, boundO, fill, fillRows, aggOf, keyEq, findKey, putKey, V.cells, V.flat, byteOf, bytesOf, rdOf, H.wr, H.kOf, splice, isYl, ↓reduceIte, Nat.reduceEqDiff, Nat.reduceLeDiff, Nat.reduceLT, Nat.reduceAdd, Nat.reduceSub, Nat.reduceMul, Int.reduceLT, Int.reduceLE, Int.reduceEq, Int.reduceAdd, Int.reduceSub, Int.reduceMul, Int.reduceNeg, Int.reduceToNat, reduceCtorEq, hc0, hx, cut2V, hc1, hx1, h61]
        exact Abs.out rfl rfl (by (repeat (first | exact Kept.refl | apply Kept.push | refine Kept.kill ?_ (by omega) | refine Kept.set ?_ (by omega))))
theorem oneV_eq (l : List UInt8) : (∃ f r, oneF l = some (f, r) ∧ oneV l = .tup [.agg f.row, .s r, .b true]) ∨ (oneF l = none ∧ ∃ n v z, oneV l = .tup [.agg [.s n, .s v, .b z], .s [], .b false]) := by
  unfold oneF oneV badV
  cases cutF l with
  | none => exact .inr ⟨rfl, _, _, _, rfl⟩
  | some p =>
    obtain ⟨n, s⟩ := p
    cases s with
    | nil => exact .inr ⟨rfl, _, _, _, rfl⟩
    | cons c r =>
      simp only
      by_cases h61 : c = 61
      · rw [if_pos h61, if_pos h61]
        cases cutF r with
        | none => exact .inr ⟨rfl, _, _, _, rfl⟩
        | some p2 =>
          obtain ⟨v, r1⟩ := p2
          cases r1 with
          | nil => exact .inl ⟨_, _, rfl, rfl⟩
          | cons c2 r2 =>
            simp only
            by_cases h33 : c2 = 33
            · rw [if_pos h33, if_pos h33]; exact .inl ⟨_, _, rfl, rfl⟩
            · rw [if_neg h33, if_neg h33]; exact .inl ⟨_, _, rfl, rfl⟩
      · rw [if_neg h61, if_neg h61]; exact .inr ⟨rfl, _, _, _, rfl⟩

/-! ### Fields read -/
theorem frow_plain (fs : List Fd) : (Blk.rows 3 (fs.map Fd.row) false).plain = true := by
  show (fs.map Fd.row).all V.plains = true
  rw [List.all_map, List.all_eq_true]
  intro f _
  rfl
def fieldsV (h : H) : Option (List Fd) → V × H
  | some fs => outVR h 3 (fs.map Fd.row) [.i .i64 0]
  | none => (.tup [.sl none 0 0 true, .i .i64 12], h)
def gRF (ys : List V) (h : H) : Option (V × H) :=
  match ys with
  | [.s l] => if l.length ≤ 100000000 then some (fieldsV h (readF l)) else none
  | _ => none
theorem gRF_eq {l : List UInt8} {h : H} (hl : l.length ≤ 100000000) : gRF [.s l] h = some (fieldsV h (readF l)) := if_pos hl
theorem OutR.keepR {h0 g g' : H} {k : Nat} {a : Option (Nat × Nat)} {n : Nat} {ex : Bool} {out : List (List V)} (o : OutR h0 g k a n ex out) (hk : Kept g g') : OutR h0 g' k a n ex out := by
  refine ⟨o.kept.trans hk, o.len, ?_⟩
  rcases o.is with h | ⟨b, h1, h2, h3, h4, h5, h6⟩
  · exact .inl h
  · exact .inr ⟨b, h1, h2, h3, Nat.lt_of_lt_of_le h4 hk.1, by rw [hk.2 b h4]; exact h5, h6⟩
theorem fieldsV_abs {h g : H} {a : Option (Nat × Nat)} {n : Nat} {ex : Bool} {fs : List Fd} (o : OutR h g 3 a n ex (fs.map Fd.row)) : Abs h (.tup [.sl a n n ex, .i .i64 0]) g (fieldsV h (some fs)).1 (fieldsV h (some fs)).2 :=
  o.abs rfl (frow_plain fs)
def RFLoop (h : H) (N : Nat) (R : Option (List Fd)) (m : Nat) (t : Tm) (g : H) : Prop :=
  ∃ s a n ex fs, m = s.length ∧ fs.length + s.length ≤ N ∧ t.v 0 = .s s ∧ t.v 4 = .sl a n n ex ∧ OutR h g 3 a n ex (fs.map Fd.row) ∧ (rfF (s.length + 1) s).map (fs ++ ·) = R
theorem readFieldsP_ok {ko : Nat} (ho : pr.ext ko = some gOne) : OkF pr (c_script_ReadFields ko) gRF := by
  intro ys h v h' hg
  unfold gRF at hg
  split at hg
  case h_2 => cases hg
  rename_i l
  split at hg
  case isFalse => cases hg
  rename_i hbig
  have e1 : v = (fieldsV h (readF l)).1 := by rw [Option.some.inj hg]
  have e2 : h' = (fieldsV h (readF l)).2 := by rw [Option.some.inj hg]
  clear hg
  subst e1 e2
  unfold wpF c_script_ReadFields
  refine ⟨by simp, ?_⟩
  have hc0 := @wpCall_ext pr ko gOne ho
  by_cases h45 : l = [45]
  · subst h45
    simp only [↓STEP, SB, looked, behind, lookOk, AAct.kind, AOp.kind, wpRes, evRes, resV, AOp.ev, bin, binI, binS, shiftI, eqV, un, bound, boundO, fill, fillRows, aggOf, keyEq, findKey, putKey, V.cells, V.flat, byteOf, bytesOf, rdOf, H.wr, H.kOf, splice, isYl, ↓reduceIte, Nat.reduceEqDiff, Nat.reduceLeDiff, Nat.reduceLT, Nat.reduceAdd, Nat.reduceSub, Nat.reduceMul, Int.reduceLT, Int.reduceLE, Int.reduceEq, Int.reduceAdd, Int.reduceSub, Int.reduceMul, Int.reduceNeg, Int.reduceToNat, reduceCtorEq]
    exact Abs.out rfl rfl Kept.refl
  · have hR : readF l = rfF (l.length + 1) l := by unfold readF; rw [if_neg h45]
    rw [hR]
    simp only [↓STEP, SB, looked, behind, lookOk, AAct.kind, AOp.kind, wpRes, evRes, resV, AOp.ev, bin, binI, binS, shiftI, eqV, un, bound, boundO, fill, fillRows, aggOf, keyEq, findKey, putKey, V.cells, V.flat, byteOf, bytesOf, rdOf, H.wr, H.kOf, splice, isYl, ↓reduceIte, Nat.reduceEqDiff, Nat.reduceLeDiff, Nat.reduceLT, Nat.reduceAdd, Nat.reduceSub, Nat.reduceMul, Int.reduceLT, Int.reduceLE, Int.reduceEq, Int.reduceAdd, Int.reduceSub, Int.reduceMul, Int.reduceNeg, Int.reduceToNat, reduceCtorEq, h45]
    refine wpA_loop_inv (RFLoop h l.length (rfF (l.length + 1) l)) ?_ (m := l.length) ?_
    · rintro m t g ⟨s, a, n, ex, fs, rfl, hN, e0, e4, o, hT⟩
      have hx : ∀ g', gOne [.s s] g' = some (oneV s, g') := fun g' => gOne_eq (by omega)
      rw [rfF] at hT
      rcases oneV_eq s with ⟨f, r, h1, h2⟩ | ⟨h1, n1, v1, z1, h2⟩
      · rw [h2] at hx
        rw [h1] at hT
        have hlen := oneF_len h1
        have hnl := o.len
        rw [List.length_map] at hnl
        obtain ⟨fn, fv, fz⟩ := f
        have hk : Kept g ((g.push (.rows 3 [[.s [], .s [], .b false]] false)).set g.nx (.rows 3 [[.s fn, .s fv, .b fz]] false)) := by (repeat (first | exact Kept.refl | apply Kept.push | refine Kept.kill ?_ (by omega) | refine Kept.set ?_ (by omega)))
        obtain ⟨b', g', e1, o'⟩ := (o.keepR hk).app1 (.rows 3 [[.s fn, .s fv, .b fz]] false) 40 [.s fn, .s fv, .b fz] (by omega) (by omega) (by omega)
        have hr1 : ((((g.push (.rows 3 [[.s [], .s [], .b false]] false)).set g.nx (.rows 3 [[.s fn, .s fv, .b fz]] false)).push (.rows 3 [[.s fn, .s fv, .b fz]] false))).rseg 3 (some (g.nx + 1, 0)) 1 = some [[.s fn, .s fv, .b fz]] := rseg_tmp1 _ 3 [.s fn, .s fv, .b fz]
        have hmap : (fs ++ [(⟨fn, fv, fz⟩ : Fd)]).map Fd.row = fs.map Fd.row ++ [[.s fn, .s fv, .b fz]] := by rw [List.map_append]; rfl
        rw [← hmap] at o'
        simp only [Fd.row] at hx
        cases r with
        | nil =>
          simp only [Option.map_some] at hT
          rw [← hT]
          simp only [↓STEP, SB, looked, behind, lookOk, AAct.kind, AOp.kind, wpRes, evRes, resV, AOp.ev, bin, binI, binS, shiftI, eqV, un, bound, boundO, fill, fillRows, aggOf, keyEq, findKey, putKey, V.cells, V.flat, byteOf, bytesOf, rdOf, H.wr, H.kOf, splice, isYl, ↓reduceIte, Nat.reduceEqDiff, Nat.reduceLeDiff, Nat.reduceLT, Nat.reduceAdd, Nat.reduceSub, Nat.reduceMul, Int.reduceLT, Int.reduceLE, Int.reduceEq, Int.reduceAdd, Int.reduceSub, Int.reduceMul, Int.reduceNeg, Int.reduceToNat, reduceCtorEq, e0, e4, hc0, hx, H.get_set, hr1, e1]
          exact fieldsV_abs o'
        | cons c r =>
          simp only [List.length_cons] at hlen
          simp only at hT
          generalize hrr : c :: r = rr at hx
          have hdr : List.drop 1 rr = r := by rw [← hrr]; rfl
          have hr0 : rr[0]? = some c := by rw [← hrr]; rfl
          have hne : ¬ rr = ([] : List UInt8) := by rw [← hrr]; simp
          have h1r : (1 : Int) ≤ (rr.length : Int) := by rw [← hrr]; simp; omega
          by_cases h44 : c = 44
          · rw [if_pos h44] at hT
            have d44 : decide (¬ (c.toNat : Int) = 44) = false := by rw [h44]; decide
            simp only [↓STEP, SB, looked, behind, lookOk, AAct.kind, AOp.kind, wpRes, evRes, resV, AOp.ev, bin, binI, binS, shiftI, eqV, un, bound, boundO, fill, fillRows, aggOf, keyEq, findKey, putKey, V.cells, V.flat, byteOf, bytesOf, rdOf, H.wr, H.kOf, splice, isYl, ↓reduceIte, Nat.reduceEqDiff, Nat.reduceLeDiff, Nat.reduceLT, Nat.reduceAdd, Nat.reduceSub, Nat.reduceMul, Int.reduceLT, Int.reduceLE, Int.reduceEq, Int.reduceAdd, Int.reduceSub, Int.reduceMul, Int.reduceNeg, Int.reduceToNat, reduceCtorEq, e0, e4, hc0, hx, hne, hr0, d44, H.get_set, hr1, e1, h1r, List.take_length, hdr]
            refine ⟨_, ?_, r, _, _, _, fs ++ [⟨fn, fv, fz⟩], rfl, by simp; omega, by simp [v_pd], by simp [v_pd]; try exact ⟨rfl, rfl, rfl⟩, o', ?_⟩
            · omega
            · rw [← hT, rfF_fuel (r.length + 1) s.length r (by omega) (by omega), Option.map_map]
              congr 1
              funext x
              simp
          · have d44 : decide (¬ (c.toNat : Int) = 44) = true := decide_eq_true fun hh => h44 (UInt8.toNat_inj.1 (by show c.toNat = 44; omega))
            rw [if_neg h44] at hT
            rw [← hT]
            simp only [↓STEP, SB, looked, behind, lookOk, AAct.kind, AOp.kind, wpRes, evRes, resV, AOp.ev, bin, binI, binS, shiftI, eqV, un, bound, boundO, fill, fillRows, aggOf, keyEq, findKey, putKey, V.cells, V.flat, byteOf, bytesOf, rdOf, H.wr, H.kOf, splice, isYl, ↓reduceIte, Nat.reduceEqDiff, Nat.reduceLeDiff, Nat.reduceLT, Nat.reduceAdd, Nat.reduceSub, Nat.reduceMul, Int.reduceLT, Int.reduceLE, Int.reduceEq, Int.reduceAdd, Int.reduceSub, Int.reduceMul, Int.reduceNeg, Int.reduceToNat, reduceCtorEq, e0, e4, hc0, hx, hne, hr0, d44, H.get_set]
            exact Abs.out rfl rfl (o.kept.trans (by (repeat (first | exact Kept.refl | apply Kept.push | refine Kept.kill ?_ (by omega) | refine Kept.set ?_ (by omega)))))
      · rw [h2] at hx
        rw [h1] at hT
        rw [← hT]
        simp only [↓STEP, SB, looked, behind, lookOk, AAct.kind, AOp.kind, wpRes, evRes, resV, AOp.ev, bin, binI, binS, shiftI, eqV, un, bound, boundO, fill, fillRows, aggOf, keyEq, findKey, putKey, V.cells, V.flat, byteOf, bytesOf, rdOf, H.wr, H.kOf, splice, isYl, ↓reduceIte, Nat.reduceEqDiff, Nat.reduceLeDiff, Nat.reduceLT, Nat.reduceAdd, Nat.reduceSub, Nat.reduceMul, Int.reduceLT, Int.reduceLE, Int.reduceEq, Int.reduceAdd, Int.reduceSub, Int.reduceMul, Int.reduceNeg, Int.reduceToNat, reduceCtorEq, e0, e4, hc0, hx]
        exact Abs.out rfl rfl (o.kept.trans (by (repeat (first | exact Kept.refl | apply Kept.push | refine Kept.kill ?_ (by omega) | refine Kept.set ?_ (by omega)))))
    · exact ⟨l, none, 0, true, [], rfl, by simp, by simp [v_pd, v_args_cons], by simp [v_pd], OutR.nil h 3, by simp⟩
end Am
