/- A SETTINGS frame, read by the program. -/
import Derived.Test.YtibmhhdgcbaofaaDoorAskR1
import Derived.Test.YtibmhhdgcbaofaaDoorAskA7
namespace Am
set_option linter.unusedVariables false
set_option linter.unusedSimpArgs false
set_option maxRecDepth 20000
set_option maxHeartbeats 8000000
variable {pr : Prog}

theorem OutR.app1K {h0 g : H} {k n : Nat} {a : Option (Nat × Nat)} {ex : Bool} {out : List (List V)} (o : OutR h0 g k a n ex out) (x : Blk) (bytes : Nat) (row : List V) (hb : 0 < bytes) (hb2 : bytes ≤ 1048576) (hn : (n + 1) * bytes ≤ 35184372088832) :
    ∃ b' g', appRows (g.push x) k bytes a n n ex [row] = some (.sl (some (b', 0)) (n + 1) (n + 1) false, g') ∧ OutR h0 g' k (some (b', 0)) (n + 1) false (out ++ [row]) ∧ KeptA a g g' ∧ g.nx < b' ∧ g.nx < g'.nx := by
  have o' := o.push x
  have hr : roomOk (n + 1) bytes = true := by unfold roomOk; simp [hb, hb2, hn]
  unfold appRows
  rw [if_neg (by simp), if_pos (show roomOk (n + [row].length) bytes = true from hr), o'.rseg, Option.bind_some]
  have hlose : ∃ h', (g.push x).loseR k a ex = some h' ∧ h'.nx = g.nx + 1 ∧ Kept h0 h' ∧ KeptA a (g.push x) h' := by
    unfold H.loseR
    rcases o'.is with ⟨rfl, h2, rfl⟩ | ⟨b, rfl, rfl, h3, h4, h5, h6⟩
    · exact ⟨_, rfl, rfl, o'.kept, KeptA.refl⟩
    · simp only [h5]
      exact ⟨_, rfl, rfl, o'.kept.kill h3, Nat.le_refl _, fun i hi hne => by rw [H.get_kill, if_neg (by rintro rfl; exact hne rfl)]⟩
  obtain ⟨h', hl', hx', hk', hk2⟩ := hlose
  rw [hl', Option.bind_some]
  refine ⟨_, _, rfl, ⟨hk'.push, by rw [List.length_append, o.len]; rfl, .inr ⟨_, rfl, rfl, hk'.1, Nat.lt_succ_self _, by rw [H.get_push, if_pos rfl], by simp⟩⟩, ⟨?_, fun i hi hne => ?_⟩, by omega, ?_⟩
  · show g.nx ≤ h'.nx + 1; omega
  · rw [H.get_push, if_neg (by omega), hk2.2 i (by show i < g.nx + 1; omega) hne, H.get_push, if_neg (by omega)]
  · show g.nx < h'.nx + 1; omega
theorem OutR.setO {h0 g : H} {k n i : Nat} {a : Option (Nat × Nat)} {ex : Bool} {out : List (List V)} (o : OutR h0 g k a n ex out) {X : Blk} (hi : h0.nx ≤ i) (hne : blkOf a ≠ some i) : OutR h0 (g.set i X) k a n ex out := by
  refine ⟨o.kept.set hi, o.len, ?_⟩
  rcases o.is with h | ⟨b, h1, h2, h3, h4, h5, h6⟩
  · exact .inl h
  · exact .inr ⟨b, h1, h2, h3, h4, by rw [H.get_set, if_neg (by rintro rfl; exact hne (by rw [h1]; rfl))]; exact h5, h6⟩
theorem OutR.rowsIn {h0 g : H} {k n : Nat} {a : Option (Nat × Nat)} {ex : Bool} {out : List (List V)} (o : OutR h0 g k a n ex out) : rowsIn g k a n out := by
  refine ⟨o.len.symm, ?_⟩
  rcases o.is with ⟨rfl, h2, rfl⟩ | ⟨b, rfl, rfl, h3, h4, h5, h6⟩
  · exact .inl h2
  · exact .inr ⟨b, 0, _, false, rfl, h4, h5, fun i row hi => by rw [Nat.zero_add]; exact hi⟩

/-! ### Settings, written and read -/
theorem beL2 (n : Nat) : beL 2 n = [UInt8.ofNat (n / 256 % 256), UInt8.ofNat (n % 256)] := by
  unfold beL; simp [List.range, List.range.loop]
theorem beL4 (n : Nat) : beL 4 n = [UInt8.ofNat (n / 16777216 % 256), UInt8.ofNat (n / 65536 % 256), UInt8.ofNat (n / 256 % 256), UInt8.ofNat (n % 256)] := by
  unfold beL; simp [List.range, List.range.loop]
theorem numB_be2 {n : Nat} (h : n < 65536) : numB (beL 2 n) = n := by
  rw [beL2]; unfold numB; simp only [List.foldl_cons, List.foldl_nil, UInt8.toNat_ofNat']; omega
theorem numB_be4 {n : Nat} (h : n < 4294967296) : numB (beL 4 n) = n := by
  rw [beL4]; unfold numB; simp only [List.foldl_cons, List.foldl_nil, UInt8.toNat_ofNat']; omega
theorem setB_drop {ss : List St} {i : Nat} (hi : i < ss.length) : (setB ss).drop (6 * i) = beL 2 ss[i].id.toNat ++ beL 4 ss[i].v.toNat ++ (setB ss).drop (6 * (i + 1)) := by
  have h1 : setB ss = setB (ss.take i) ++ setB (ss.drop i) := by
    unfold setB; rw [← List.flatten_append, ← List.map_append, List.take_append_drop]
  have h2 : setB ss = setB (ss.take (i + 1)) ++ setB (ss.drop (i + 1)) := by
    unfold setB; rw [← List.flatten_append, ← List.map_append, List.take_append_drop]
  have l1 : (setB (ss.take i)).length = 6 * i := by rw [setB_len, List.length_take, Nat.min_eq_left (by omega)]
  have l2 : (setB (ss.take (i + 1))).length = 6 * (i + 1) := by rw [setB_len, List.length_take, Nat.min_eq_left (by omega)]
  have e1 : (setB ss).drop (6 * (i + 1)) = setB (ss.drop (i + 1)) := by
    rw [h2, ← l2, List.drop_left]
  rw [e1]
  conv => lhs; rw [h1, ← l1, List.drop_left]
  rw [List.drop_eq_getElem_cons hi]
  rfl

def gPlace (ys : List V) (h : H) : Option (V × H) :=
  match ys with
  | [.i .i64 n] => if n = 4 then some (.i .i64 0, h) else none
  | _ => none
theorem place_ok : OkF pr c_frame_place gPlace := by
  intro ys h v h' hg
  unfold gPlace at hg
  split at hg
  · split at hg
    case isFalse => cases hg
    rename_i hn
    subst hn
    cases hg
    unfold wpF c_frame_place
    refine ⟨by simp, ?_⟩
    simp only [↓STEP, SB, looked, behind, lookOk, AAct.kind, AOp.kind, wpRes, evRes, resV, AOp.ev, bin, binI, binS, shiftI, eqV, un, bound, boundO, fill, fillRows, aggOf, keyEq, findKey, putKey, V.cells, V.flat, byteOf, bytesOf, rdOf, H.wr, H.kOf, splice, isYl, ↓reduceIte, Nat.reduceEqDiff, Nat.reduceLeDiff, Nat.reduceLT, Nat.reduceAdd, Nat.reduceSub, Nat.reduceMul, Int.reduceLT, Int.reduceLE, Int.reduceEq, Int.reduceAdd, Int.reduceSub, Int.reduceMul, Int.reduceNeg, Int.reduceToNat, reduceCtorEq]
    exact Abs.refl
  · cases hg
def gSized (ys : List V) (h : H) : Option (V × H) :=
  match ys with
  | [.agg [.i .i64 ty, .i .i64 fl, .i .i64 x, .sl p n c ex], .i .i64 m] => if ty = 4 ∧ fl = 0 ∧ 0 ≤ m then some (.b (decide (Int.tmod m 6 = 0)), h) else none
  | _ => none
theorem gSized_eq {x : Int} {p : Option (Nat × Nat)} {n c : Nat} {ex : Bool} {m : Nat} (h : H) : gSized [.agg [.i .i64 4, .i .i64 0, .i .i64 x, .sl p n c ex], .i .i64 ((6 * m : Nat) : Int)] h = some (.b true, h) := by
  have hx : Int.tmod ((6 * m : Nat) : Int) 6 = 0 := by
    have := tmod_nat (6 * m) 6
    rw [Nat.mul_mod_right] at this
    exact this
  have h0 : (0 : Int) ≤ ((6 * m : Nat) : Int) := Int.natCast_nonneg _
  unfold gSized; simp only [hx]
  rw [if_pos ⟨trivial, trivial, h0⟩]
  rfl
theorem sized_ok : OkF pr c_frame_sized gSized := by
  intro ys h v h' hg
  unfold gSized at hg
  split at hg
  case h_2 => cases hg
  rename_i ty fl x p n c ex m
  split at hg
  case isFalse => cases hg
  rename_i hn
  obtain ⟨rfl, rfl, hm⟩ := hn
  cases hg
  unfold wpF c_frame_sized
  refine ⟨by simp, ?_⟩
  have hw : Go.IntKind.wrap .i64 (Int.tmod m 6) = Int.tmod m 6 := by
    have h1 := Int.tmod_lt_of_pos m (b := 6) (by decide)
    have h2 := Int.tmod_nonneg 6 hm
    exact wrap_i64 (by omega) (by omega)
  have ha : bitsOp .and .i64 0 1 = some 0 := by decide
  by_cases h6 : Int.tmod m 6 = 0
  · simp only [↓STEP, SB, looked, behind, lookOk, AAct.kind, AOp.kind, wpRes, evRes, resV, AOp.ev, bin, binI, binS, shiftI, eqV, un, bound, boundO, fill, fillRows, aggOf, keyEq, findKey, putKey, V.cells, V.flat, byteOf, bytesOf, rdOf, H.wr, H.kOf, splice, isYl, ↓reduceIte, Nat.reduceEqDiff, Nat.reduceLeDiff, Nat.reduceLT, Nat.reduceAdd, Nat.reduceSub, Nat.reduceMul, Int.reduceLT, Int.reduceLE, Int.reduceEq, Int.reduceAdd, Int.reduceSub, Int.reduceMul, Int.reduceNeg, Int.reduceToNat, reduceCtorEq, hw, h6, ha]
    exact Abs.out rfl rfl (by (repeat (first | exact Kept.refl | apply Kept.push | refine Kept.kill ?_ (by omega) | refine Kept.set ?_ (by omega))))
  · simp only [↓STEP, SB, looked, behind, lookOk, AAct.kind, AOp.kind, wpRes, evRes, resV, AOp.ev, bin, binI, binS, shiftI, eqV, un, bound, boundO, fill, fillRows, aggOf, keyEq, findKey, putKey, V.cells, V.flat, byteOf, bytesOf, rdOf, H.wr, H.kOf, splice, isYl, ↓reduceIte, Nat.reduceEqDiff, Nat.reduceLeDiff, Nat.reduceLT, Nat.reduceAdd, Nat.reduceSub, Nat.reduceMul, Int.reduceLT, Int.reduceLE, Int.reduceEq, Int.reduceAdd, Int.reduceSub, Int.reduceMul, Int.reduceNeg, Int.reduceToNat, reduceCtorEq, hw, h6, ha]
    exact Abs.out rfl rfl (by (repeat (first | exact Kept.refl | apply Kept.push | refine Kept.kill ?_ (by omega) | refine Kept.set ?_ (by omega))))

theorem bare_runs {kpd kb : Nat} (hA : pr.ext kb = none) (hfn : pr.fn kb = some (c_frame_bare kpd)) (hpd : pr.ext kpd = some gPadded) {h : H} {fl x : Int} {p o : Option (Nat × Nat)} {n c : Nat} {ex : Bool} {q : V} :
    Runs pr (.fn kb) [.agg [.i .i64 4, .i .i64 fl, .i .i64 x, .sl p n c ex], q] h (fun v g => v = .tup [.sl p n c ex, .i .i64 0] ∧ Kept h g) := by
  have xpd := @wpCall_ext pr kpd _ hpd
  have ypd : ∀ g, gPadded [.i .i64 4] g = some (.b false, g) := fun g => rfl
  refine runs_of_wpF hA hfn ?_
  unfold wpF c_frame_bare
  refine ⟨by simp, ?_⟩
  simp only [↓STEP, SB, looked, behind, lookOk, AAct.kind, AOp.kind, wpRes, evRes, resV, AOp.ev, bin, binI, binS, shiftI, eqV, un, bound, boundO, fill, fillRows, aggOf, keyEq, findKey, putKey, V.cells, V.flat, byteOf, bytesOf, rdOf, H.wr, H.kOf, splice, isYl, ↓reduceIte, Nat.reduceEqDiff, Nat.reduceLeDiff, Nat.reduceLT, Nat.reduceAdd, Nat.reduceSub, Nat.reduceMul, Int.reduceLT, Int.reduceLE, Int.reduceEq, Int.reduceAdd, Int.reduceSub, Int.reduceMul, Int.reduceNeg, Int.reduceToNat, reduceCtorEq, xpd, ypd]
  exact by (repeat (first | exact Kept.refl | apply Kept.push | refine Kept.kill ?_ (by omega) | refine Kept.set ?_ (by omega)))

/-! ### The reading -/
def body0 : List V := [.sl none 0 0 true, .i .i64 0, .b false, .b false, .i .i64 0, .i .i64 0, .i .i64 0, .i .i64 0, .i .i64 0, .sl none 0 0 true, .i .i64 0]
def FrLoop (h : H) (ss : List St) (p : Option (Nat × Nat)) (c : Nat) (ex0 : Bool) (m : Nat) (t : Tm) (g : H) : Prop :=
  ∃ (i : Nat) (a : Option (Nat × Nat)) (n : Nat) (ex : Bool), m = ss.length - i ∧ i ≤ ss.length ∧ t.v 6 = .sl (restP p (6 * i)) (6 * (ss.length - i)) (c - 6 * i) ex0 ∧ t.v 2 = .p (some (h.nx + 1, 0, 0)) ∧ t.v 5 = .p (some (h.nx + 2, 0, 0)) ∧
    OutR h g 2 a n ex ((ss.take i).map St.row) ∧ (∀ b, blkOf a = some b → h.nx + 2 < b) ∧ h.nx + 2 < g.nx ∧ g.get (h.nx + 1) = some (.rows 11 [body0] false) ∧ g.get (h.nx + 2) = some (.rows 11 [bodyS a n n ex] false)

theorem fread_runs {kpl kb ks kcl kpr kn kpd kr : Nat} (hA : pr.ext kr = none) (hfn : pr.fn kr = some (c_frame_Read kpl kb ks kcl kpr kn)) (hpl : pr.ext kpl = some gPlace) (hbA : pr.ext kb = none) (hbf : pr.fn kb = some (c_frame_bare kpd)) (hpd : pr.ext kpd = some gPadded)
    (hs : pr.ext ks = some gSized) (hn : pr.ext kn = some gNum) {h : H} {p : Option (Nat × Nat)} {n c : Nat} {ex0 : Bool} {ss : List St} (hr : rdB h p n = some (setB ss)) (hc : n ≤ c) (hok : ss.all okSt = true) (hsm : ss.length ≤ 1000000) :
    Runs pr (.fn kr) [.agg [.i .i64 4, .i .i64 0, .i .i64 0, .sl p n c ex0]] h (fun v g => Kept h g ∧ ∃ a n ex, v = .tup [.agg (bodyS a n n ex), .i .i64 0] ∧ rowsIn g 2 a n (ss.map St.row)) := by
  have xpl := @wpCall_ext pr kpl _ hpl
  have xs := @wpCall_ext pr ks _ hs
  have xn := @wpCall_ext pr kn _ hn
  have ypl : ∀ g, gPlace [.i .i64 4] g = some (.i .i64 0, g) := fun g => rfl
  have hlen := rdB_len hr
  rw [setB_len] at hlen
  subst hlen
  have ys := fun g => gSized_eq (x := 0) (p := p) (n := 6 * ss.length) (c := c) (ex := ex0) (m := ss.length) g
  refine runs_of_wpF hA hfn ?_
  unfold wpF c_frame_Read
  refine ⟨by simp, ?_⟩
  simp only [↓STEP, SB, looked, behind, lookOk, AAct.kind, AOp.kind, wpRes, evRes, resV, AOp.ev, bin, binI, binS, shiftI, eqV, un, bound, boundO, fill, fillRows, aggOf, keyEq, findKey, putKey, V.cells, V.flat, byteOf, bytesOf, rdOf, H.wr, H.kOf, splice, isYl, ↓reduceIte, Nat.reduceEqDiff, Nat.reduceLeDiff, Nat.reduceLT, Nat.reduceAdd, Nat.reduceSub, Nat.reduceMul, Int.reduceLT, Int.reduceLE, Int.reduceEq, Int.reduceAdd, Int.reduceSub, Int.reduceMul, Int.reduceNeg, Int.reduceToNat, reduceCtorEq, xpl, ypl]
  generalize hG : H.push (H.push (H.push h _) _) _ = G
  have hkG : Kept h G := by rw [← hG]; (repeat (first | exact Kept.refl | apply Kept.push | refine Kept.kill ?_ (by omega) | refine Kept.set ?_ (by omega)))
  have hnG : G.nx = h.nx + 3 := by rw [← hG]; rfl
  have g1 : G.get h.nx = some (.rows 4 [[.i .i64 4, .i .i64 0, .i .i64 0, .sl p (6 * ss.length) c ex0]] false) := by rw [← hG]; simp only [↓STEP, SB, looked, behind, lookOk, AAct.kind, AOp.kind, wpRes, evRes, resV, AOp.ev, bin, binI, binS, shiftI, eqV, un, bound, boundO, fill, fillRows, aggOf, keyEq, findKey, putKey, V.cells, V.flat, byteOf, bytesOf, rdOf, H.wr, H.kOf, splice, isYl, ↓reduceIte, Nat.reduceEqDiff, Nat.reduceLeDiff, Nat.reduceLT, Nat.reduceAdd, Nat.reduceSub, Nat.reduceMul, Int.reduceLT, Int.reduceLE, Int.reduceEq, Int.reduceAdd, Int.reduceSub, Int.reduceMul, Int.reduceNeg, Int.reduceToNat, reduceCtorEq, show h.nx ≠ h.nx + 1 by omega, show h.nx ≠ h.nx + 2 by omega]
  have g2 : G.get (h.nx + 1) = some (.rows 11 [body0] false) := by rw [← hG]; simp only [↓STEP, SB, looked, behind, lookOk, AAct.kind, AOp.kind, wpRes, evRes, resV, AOp.ev, bin, binI, binS, shiftI, eqV, un, bound, boundO, fill, fillRows, aggOf, keyEq, findKey, putKey, V.cells, V.flat, byteOf, bytesOf, rdOf, H.wr, H.kOf, splice, isYl, ↓reduceIte, Nat.reduceEqDiff, Nat.reduceLeDiff, Nat.reduceLT, Nat.reduceAdd, Nat.reduceSub, Nat.reduceMul, Int.reduceLT, Int.reduceLE, Int.reduceEq, Int.reduceAdd, Int.reduceSub, Int.reduceMul, Int.reduceNeg, Int.reduceToNat, reduceCtorEq, show h.nx + 1 ≠ h.nx + 2 by omega]; rfl
  have g5 : G.get (h.nx + 2) = some (.rows 11 [body0] false) := by rw [← hG]; simp only [↓STEP, SB, looked, behind, lookOk, AAct.kind, AOp.kind, wpRes, evRes, resV, AOp.ev, bin, binI, binS, shiftI, eqV, un, bound, boundO, fill, fillRows, aggOf, keyEq, findKey, putKey, V.cells, V.flat, byteOf, bytesOf, rdOf, H.wr, H.kOf, splice, isYl, ↓reduceIte, Nat.reduceEqDiff, Nat.reduceLeDiff, Nat.reduceLT, Nat.reduceAdd, Nat.reduceSub, Nat.reduceMul, Int.reduceLT, Int.reduceLE, Int.reduceEq, Int.reduceAdd, Int.reduceSub, Int.reduceMul, Int.reduceNeg, Int.reduceToNat, reduceCtorEq]; rfl
  clear hG
  refine Runs.mono (c := .fn kb) («as» := [.agg [.i .i64 4, .i .i64 0, .i .i64 0, .sl p (6 * ss.length) c ex0], .p (some (h.nx + 2, 0, 0))] ++ []) (bare_runs (o := none) hbA hbf hpd) ?_
  rintro v g ⟨rfl, hk⟩
  have k1 := (hk.2 _ (by omega)).trans g1
  have k2 := (hk.2 _ (by omega)).trans g2
  have k5 := (hk.2 _ (by omega)).trans g5
  have hkg := hkG.trans hk
  have hnx := hk.1
  have ys := ys g
  generalize hN : 6 * ss.length = N at ys k1
  simp only [↓STEP, SB, looked, behind, lookOk, AAct.kind, AOp.kind, wpRes, evRes, resV, AOp.ev, bin, binI, binS, shiftI, eqV, un, bound, boundO, fill, fillRows, aggOf, keyEq, findKey, putKey, V.cells, V.flat, byteOf, bytesOf, rdOf, H.wr, H.kOf, splice, isYl, ↓reduceIte, Nat.reduceEqDiff, Nat.reduceLeDiff, Nat.reduceLT, Nat.reduceAdd, Nat.reduceSub, Nat.reduceMul, Int.reduceLT, Int.reduceLE, Int.reduceEq, Int.reduceAdd, Int.reduceSub, Int.reduceMul, Int.reduceNeg, Int.reduceToNat, reduceCtorEq, k1, xs, ys]
  subst hN
  have hrg := rdB_kept hr hkg
  refine wpA_loop_inv (FrLoop h ss p c ex0) ?_ (m := ss.length) ?_
  · rintro m t g ⟨i, a, n, ex, rfl, hi, e6, e2, e5, o, hfr, hnx2, k2, k5⟩
    by_cases hlt : i < ss.length
    · have hpos : (0 : Int) < ((6 * (ss.length - i) : Nat) : Int) := by omega
      have hrk := rdB_kept hr o.kept
      obtain ⟨b, r, bs, ro, rfl, hgt, hle, hl2, hat⟩ := bseg_open (rdB_bseg hrk) (by omega)
      have hbn : b < h.nx := rdB_lt hr b rfl
      have hd := setB_drop hlt
      have hoki : okSt ss[i] = true := List.all_eq_true.1 hok _ (List.getElem_mem hlt)
      unfold okSt at hoki
      simp only [Bool.and_eq_true, decide_eq_true_eq] at hoki
      have q0 := bseg_from (s := 6 * i) (rdB_bseg hrk) (by omega)
      have q1 := bseg_take (k := 2) q0 (by omega)
      have q2 := bseg_take (k := 4) (bseg_from (s := 2) q0 (by omega)) (by omega)
      rw [hd] at q1 q2
      have b2 : (beL 2 ss[i].id.toNat).length = 2 := beL_len _ _
      have b4 : (beL 4 ss[i].v.toNat).length = 4 := beL_len _ _
      rw [List.append_assoc, List.take_left' b2] at q1
      rw [List.append_assoc, List.drop_left' b2, List.take_left' b4] at q2
      have y1 := gNum_eq (c := c - 6 * i) (ex := ex0) (by decide) (rdB_of q1 fun b' hb' => by cases hb'; show b < g.nx; have := o.kept.1; omega)
      have y2 := gNum_eq (c := c - 6 * i - 2) (ex := ex0) (by decide) (rdB_of q2 fun b' hb' => by cases hb'; show b < g.nx; have := o.kept.1; omega)
      rw [numB_be2 (by omega)] at y1
      rw [numB_be4 (by omega)] at y2
      have i1 : ((ss[i].id.toNat : Nat) : Int) = ss[i].id := by omega
      have i2 : ((ss[i].v.toNat : Nat) : Int) = ss[i].v := by omega
      rw [i1] at y1
      rw [i2, Nat.add_assoc] at y2
      have c1 : (2 : Int) ≤ ((c - 6 * i : Nat) : Int) := by omega
      have c2 : (6 : Int) ≤ ((c - 6 * i : Nat) : Int) := by omega
      have c3 : (6 : Int) ≤ ((6 * (ss.length - i) : Nat) : Int) := by omega
      simp only [restP, Option.map_some] at e6
      have hll := o.len
      rw [List.length_map, List.length_take, Nat.min_eq_left hi] at hll
      obtain ⟨b', g', e1, o', ka, hb', hx'⟩ := o.app1K (.rows 2 [[.i .i64 ss[i].id, .i .i64 ss[i].v]] false) 16 [.i .i64 ss[i].id, .i .i64 ss[i].v] (by decide) (by decide) (by omega)
      have s1 := rseg_tmp1 g 2 [.i .i64 ss[i].id, .i .i64 ss[i].v]
      unfold bodyS at k5
      have nn : h.nx + 2 ≠ g.nx := by omega
      have z5 : g'.get (h.nx + 2) = some (.rows 11 [[.sl none 0 0 true, .i .i64 0, .b false, .b false, .i .i64 0, .i .i64 0, .i .i64 0, .i .i64 0, .i .i64 0, .sl a n n ex, .i .i64 0]] false) := (ka.2 _ (by omega) fun hb => by have := hfr _ hb; omega).trans k5
      have nb2 : b ≠ h.nx + 2 := by omega
      have gb' : g'.get b = some (.bytes bs ro) := (ka.2 _ (by have := o.kept.1; omega) fun hb => by have := hfr _ hb; omega).trans hgt
      have ble1 : Nat.ble (g.nx + 1) g'.nx = true := by simp; omega
      generalize hL : 6 * (ss.length - i) = L at *
      generalize hC : c - 6 * i = C at *
      simp only [↓STEP, SB, looked, behind, lookOk, AAct.kind, AOp.kind, wpRes, evRes, resV, AOp.ev, bin, binI, binS, shiftI, eqV, un, bound, boundO, fill, fillRows, aggOf, keyEq, findKey, putKey, V.cells, V.flat, byteOf, bytesOf, rdOf, H.wr, H.kOf, splice, isYl, ↓reduceIte, Nat.reduceEqDiff, Nat.reduceLeDiff, Nat.reduceLT, Nat.reduceAdd, Nat.reduceSub, Nat.reduceMul, Int.reduceLT, Int.reduceLE, Int.reduceEq, Int.reduceAdd, Int.reduceSub, Int.reduceMul, Int.reduceNeg, Int.reduceToNat, reduceCtorEq, e6, e2, e5, hpos, c1, c2, c3, hgt, xn, y1, y2, k5, nn, s1, e1, z5, Nat.sub_zero, Option.isSome_none, List.flatten_cons, List.flatten_nil, nb2, gb', ble1]
      have hb3 : b' ≠ h.nx + 2 := by omega
      refine ⟨_, by omega, i + 1, some (b', 0), n + 1, false, rfl, hlt, ?_, by simp [v_pd, v_pd0, e2], by simp [v_pd, v_pd0, e5], ?_, (fun b hb => by cases hb; show h.nx + 2 < b'; omega), by show h.nx + 2 < g'.nx; omega, ?_, ?_⟩
      · simp only [↓STEP, SB, looked, behind, lookOk, AAct.kind, AOp.kind, wpRes, evRes, resV, AOp.ev, bin, binI, binS, shiftI, eqV, un, bound, boundO, fill, fillRows, aggOf, keyEq, findKey, putKey, V.cells, V.flat, byteOf, bytesOf, rdOf, H.wr, H.kOf, splice, isYl, ↓reduceIte, Nat.reduceEqDiff, Nat.reduceLeDiff, Nat.reduceLT, Nat.reduceAdd, Nat.reduceSub, Nat.reduceMul, Int.reduceLT, Int.reduceLE, Int.reduceEq, Int.reduceAdd, Int.reduceSub, Int.reduceMul, Int.reduceNeg, Int.reduceToNat, reduceCtorEq, restP, show 6 * (i + 1) = 6 * i + 6 by omega, show 6 * (ss.length - (i + 1)) = L - 6 by omega, show c - (6 * i + 6) = C - 6 by omega]
      · have : (ss.take (i + 1)).map St.row = (ss.take i).map St.row ++ [[.i .i64 ss[i].id, .i .i64 ss[i].v]] := by
          rw [List.take_add_one, List.getElem?_eq_getElem hlt, List.map_append]; rfl
        rw [this]
        exact o'.setO (by omega) fun hb => hb3 (Option.some.inj hb)
      · rw [H.get_set, if_neg (by omega)]
        exact (ka.2 _ (by omega) fun hb => by have := hfr _ hb; omega).trans k2
      · rw [H.get_set, if_pos rfl]; rfl
    · have hil : 6 * (ss.length - i) = 0 := by omega
      rw [hil] at e6
      unfold bodyS at k5
      unfold body0 at k2
      have nn : h.nx + 2 ≠ h.nx + 1 := by omega
      simp only [↓STEP, SB, looked, behind, lookOk, AAct.kind, AOp.kind, wpRes, evRes, resV, AOp.ev, bin, binI, binS, shiftI, eqV, un, bound, boundO, fill, fillRows, aggOf, keyEq, findKey, putKey, V.cells, V.flat, byteOf, bytesOf, rdOf, H.wr, H.kOf, splice, isYl, ↓reduceIte, Nat.reduceEqDiff, Nat.reduceLeDiff, Nat.reduceLT, Nat.reduceAdd, Nat.reduceSub, Nat.reduceMul, Int.reduceLT, Int.reduceLE, Int.reduceEq, Int.reduceAdd, Int.reduceSub, Int.reduceMul, Int.reduceNeg, Int.reduceToNat, reduceCtorEq, e6, e2, e5, k2, k5, nn, Int.natCast_zero]
      have o' := o.setO (X := .rows 11 [bodyS a n n ex] false) (i := h.nx + 1) (by omega) fun hb => by have := hfr _ hb; omega
      rw [show i = ss.length by omega, List.take_length] at o'
      exact ⟨o.kept.set (by omega), a, n, ex, rfl, o'.rowsIn⟩
  · refine ⟨0, none, 0, true, rfl, Nat.zero_le _, ?_, by simp [v_pd, v_pd0], by simp [v_pd, v_pd0], ?_, (fun b hb => by cases hb), by omega, k2, k5⟩
    · cases p <;> simp [v_pd, v_pd0, restP]
    · exact ⟨hkg, rfl, .inl ⟨rfl, rfl, rfl⟩⟩

end Am
