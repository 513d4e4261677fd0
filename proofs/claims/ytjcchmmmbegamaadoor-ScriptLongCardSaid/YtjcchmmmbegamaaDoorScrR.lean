/- Script texts: lines read, in the program. -/
import Derived.Test.YtjcchmmmbegamaaDoorScrQ
namespace Am
set_option linter.unusedVariables false
set_option linter.unusedSimpArgs false
set_option maxRecDepth 20000
set_option maxHeartbeats 8000000
variable {pr : Prog}

theorem OutR.app1R {h0 g : H} {k n : Nat} {a : Option (Nat × Nat)} {ex : Bool} {out : List (List V)} (o : OutR h0 g k a n ex out) (x : Blk) (bytes : Nat) (row : List V) (hb : 0 < bytes) (hb2 : bytes ≤ 1048576) (hn : (n + 1) * bytes ≤ 35184372088832) :
    ∃ b' g', appRows (g.push x) k bytes a n n ex [row] = some (.sl (some (b', 0)) (n + 1) (n + 1) false, g') ∧ OutR h0 g' k (some (b', 0)) (n + 1) false (out ++ [row]) ∧ KeptA a g g' ∧ g.nx < b' ∧ g.nx < g'.nx ∧ b' < g'.nx := by
  have o' := o.push x
  have hr : roomOk (n + 1) bytes = true := by unfold roomOk; simp [hb, hb2, hn]
  unfold appRows
  rw [if_neg (by simp), if_pos (show roomOk (n + [row].length) bytes = true from hr), o'.rseg, Option.bind_some]
  have hlose : ∃ h', (g.push x).loseR k a ex = some h' ∧ h'.nx = g.nx + 1 ∧ Kept h0 h' ∧ KeptA a (g.push x) h' := by
    unfold H.loseR
    rcases o'.is with ⟨rfl, h2, rfl⟩ | ⟨b, rfl, rfl, h3, h4, h5, h6⟩
    · exact ⟨_, rfl, rfl, o'.kept, KeptA.refl⟩
    · simp only [h5]
      exact ⟨_, rfl, rfl, o'.kept.kill h3, Nat.le_refl _, fun i hi hne => by rw [H.get_kill, if_neg (by rintro rfl; exact hne rfl)]⟩
  obtain ⟨h', hl', hx', hk', hk2⟩ := hlose
  rw [hl', Option.bind_some]
  refine ⟨_, _, rfl, ⟨hk'.push, by rw [List.length_append, o.len]; rfl, .inr ⟨_, rfl, rfl, hk'.1, Nat.lt_succ_self _, by rw [H.get_push, if_pos rfl], by simp⟩⟩, ⟨?_, fun i hi hne => ?_⟩, by omega, ?_, Nat.lt_succ_self _⟩
  · show g.nx ≤ h'.nx + 1; omega
  · rw [H.get_push, if_neg (by omega), hk2.2 i (by show i < g.nx + 1; omega) hne, H.get_push, if_neg (by omega)]
  · show g.nx < h'.nx + 1; omega
theorem OutR.setR {h0 g : H} {k n i : Nat} {a : Option (Nat × Nat)} {ex : Bool} {out : List (List V)} (o : OutR h0 g k a n ex out) {X : Blk} (hi : h0.nx ≤ i) (hne : blkOf a ≠ some i) : OutR h0 (g.set i X) k a n ex out := by
  refine ⟨o.kept.set hi, o.len, ?_⟩
  rcases o.is with h | ⟨b, h1, h2, h3, h4, h5, h6⟩
  · exact .inl h
  · exact .inr ⟨b, h1, h2, h3, h4, by rw [H.get_set, if_neg (by rintro rfl; exact hne (by rw [h1]; rfl))]; exact h5, h6⟩
/-- Behind a step told. -/
structure Tell (h0 h g : H) (lb sb m : Nat) (a : Option (Nat × Nat)) (out : List (List V)) (row : List V) (lg : Bool) : Prop where
  long : g.get lb = some (.rows 1 [[.b lg]] false)
  list : ∃ b', g.get sb = some (.rows 1 [[.sl (some (b', 0)) (m + 1) (m + 1) false]] false) ∧ OutR h0 g 12 (some (b', 0)) (m + 1) false (out ++ [row]) ∧ h.nx ≤ b' ∧ b' < g.nx
  kept : ∀ i, i < h.nx → i ≠ lb → i ≠ sb → blkOf a ≠ some i → g.get i = h.get i
  nx : h.nx ≤ g.nx
theorem read1_runs {k : Nat} (hA : pr.ext k = none) (hfn : pr.fn k = some c_script_Read_1) {h0 h : H} {lb sb m : Nat} {a : Option (Nat × Nat)} {ex x : Bool} {out : List (List V)} {row : List V} {n : Int} (hl : h.get lb = some (.rows 1 [[.b x]] false)) (hs : h.get sb = some (.rows 1 [[.sl a m m ex]] false)) (o : OutR h0 h 12 a m ex out) (hlb : lb < h.nx) (hsb : sb < h.nx) (hne : sb ≠ lb) (hl0 : h0.nx ≤ lb) (hs0 : h0.nx ≤ sb) (hrl : row.length = 12) (hrf : row.all V.flat = true) (hm : m ≤ 1000000) :
    Runs pr (.fn k) [.i .i64 n, .agg row, .p (some (lb, 0, 0)), .p (some (sb, 0, 0))] h (fun v g => v = .b (!decide (4096 ≤ n)) ∧ Tell h0 h g lb sb m a out row (decide (4096 ≤ n))) := by
  refine runs_of_wpF hA hfn ?_
  have hr12 : List.take 12 row = row := List.take_of_length_le (by omega)
  have hbl : blkOf a ≠ some lb := by
    rcases o.is with ⟨rfl, _⟩ | ⟨b, rfl, _, _, _, h5, _⟩
    · intro hh; cases hh
    · intro hh; cases hh; rw [hl] at h5; cases h5
  have hbs : blkOf a ≠ some sb := by
    rcases o.is with ⟨rfl, _⟩ | ⟨b, rfl, _, _, _, h5, _⟩
    · intro hh; cases hh
    · intro hh; cases hh; rw [hs] at h5; cases h5
  have n1 : ¬ lb = h.nx := by omega
  have n2 : ¬ sb = h.nx := by omega
  have n3 : ¬ h.nx = lb := by omega
  have n4 : ¬ lb = sb := fun hh => hne hh.symm
  unfold wpF c_script_Read_1
  refine ⟨by simp, ?_⟩
  have o2 : OutR h0 ((h.push (.rows 12 [row] false)).set lb (.rows 1 [[.b (decide (4096 ≤ n))]] false)) 12 a m ex out := (o.push _).setR hl0 hbl
  obtain ⟨b', g', q1, o3, hka, hb1, hb2, hb3⟩ := o2.app1R (.rows 12 [row] false) 128 row (by omega) (by omega) (by omega)
  have gl : g'.get lb = some (.rows 1 [[.b (decide (4096 ≤ n))]] false) := by rw [hka.2 lb (by simp [nx_push, nx_set]; omega) hbl, H.get_set, if_pos rfl]
  have gs : g'.get sb = some (.rows 1 [[.sl a m m ex]] false) := by rw [hka.2 sb (by simp [nx_push, nx_set]; omega) hbs, H.get_set, if_neg hne, H.get_push, if_neg n2]; exact hs
  have hx : ((h.push (.rows 12 [row] false)).set lb (.rows 1 [[.b (decide (4096 ≤ n))]] false)).nx = h.nx + 1 := rfl
  rw [hx] at hb1 hb2
  have o4 : OutR h0 (g'.set sb (.rows 1 [[.sl (some (b', 0)) (m + 1) (m + 1) false]] false)) 12 (some (b', 0)) (m + 1) false (out ++ [row]) := o3.setR hs0 (fun hh => absurd (show b' = sb from Option.some.inj hh) (by omega))
  have hseg : (((h.push (.rows 12 [row] false)).set lb (.rows 1 [[.b (decide (4096 ≤ n))]] false)).push (.rows 12 [row] false)).rseg 12 (some (h.nx + 1, 0)) 1 = some [row] := rseg_tmp1 _ 12 row
  generalize hd : decide (4096 ≤ n) = d at *
  have m1 : ¬ lb = h.nx + 1 := by omega
  have m2 : ¬ h.nx = h.nx + 1 := by omega
  simp only [↓STEP, SB, looked, behind, lookOk, AAct.kind, AOp.kind, wpRes, evRes, resV, AOp.ev, bin, binI, binS, shiftI, eqV, un, bound, boundO, fill, fillRows, aggOf, keyEq, findKey, putKey, V.cells, V.flat, byteOf, bytesOf, rdOf, H.wr, H.kOf, splice, isYl, ↓reduceIte, Nat.reduceEqDiff, Nat.reduceLeDiff, Nat.reduceLT, Nat.reduceAdd, Nat.reduceSub, Nat.reduceMul, Int.reduceLT, Int.reduceLE, Int.reduceEq, Int.reduceAdd, Int.reduceSub, Int.reduceMul, Int.reduceNeg, Int.reduceToNat, reduceCtorEq, hl, hs, hrl, hrf, hr12, n1, n2, n3, n4, hne, hd, hseg, q1, gl, gs]
  refine ⟨?_, ⟨b', ?_, o4, by omega, hb3⟩, fun i hi h1 h2 h3 => ?_, ?_⟩
  · rw [H.get_set, if_neg n4]; exact gl
  · rw [H.get_set, if_pos rfl]
  · rw [H.get_set, if_neg h2, hka.2 i (by rw [hx]; omega) h3, H.get_set, if_neg h1, H.get_push, if_neg (by omega)]
  · show h.nx ≤ g'.nx; omega
end Am
/- Script texts: lines read one after the other, in the program. -/
namespace Am
set_option linter.unusedVariables false
set_option linter.unusedSimpArgs false
set_option maxRecDepth 20000
set_option maxHeartbeats 8000000
variable {pr : Prog}

/-- Steps read, and the text that they are. -/
inductive Told : List Sp → List UInt8 → Prop where
  | nil : Told [] []
  | snoc (ss : List Sp) (t : List UInt8) (s : Sp) (l : List UInt8) (h : Told ss t) (ok : SpR s) (hl : lineF s = some (l ++ [10])) (hn : 10 ∉ l) : Told (ss ++ [s]) (t ++ (l ++ [10]))
theorem spRow_mut {h g : H} {s : Sp} {row : List V} (hr : spRow h s row) (hn : h.nx ≤ g.nx) (hk : ∀ i, i < h.nx → (∀ all ro, h.get i = some (.rows 3 all ro) → g.get i = h.get i) ∧ (∀ bs ro, h.get i = some (.bytes bs ro) → g.get i = h.get i)) : spRow g s row := by
  obtain ⟨p, fn, fc, fex, q, dn, dc, dex, h1, ⟨h2, h2'⟩, h3⟩ := hr
  refine ⟨p, fn, fc, fex, q, dn, dc, dex, h1, ⟨h2, ?_⟩, ?_⟩
  · rcases h2' with h2' | ⟨c, r, al, ro', e, hc, hg, hat⟩
    · exact .inl h2'
    · exact .inr ⟨c, r, al, ro', e, Nat.lt_of_lt_of_le hc hn, by rw [(hk c hc).1 _ _ hg]; exact hg, hat⟩
  · have e1 := rdB_bseg h3
    have e2 := rdB_lt h3
    refine rdB_of ?_ fun c hc => Nat.lt_of_lt_of_le (e2 c hc) hn
    by_cases h0 : dn = 0
    · subst h0; rw [bseg_zero] at e1 ⊢; exact e1
    · obtain ⟨c, r, bs, ro', rfl, hg, hle, e, _⟩ := bseg_open e1 (by omega)
      unfold H.bseg
      rw [if_neg h0]
      simp only [(hk c (e2 c rfl)).2 _ _ hg, hg]
      rw [if_pos hle, e]
/-- Steps that are being gathered. -/
structure Acc (h g : H) (sb lb : Nat) (ss : List Sp) (t : List UInt8) (lg : Bool) : Prop where
  long : g.get lb = some (.rows 1 [[.b lg]] false)
  told : Told ss t
  list : ∃ a ex out, g.get sb = some (.rows 1 [[.sl a ss.length ss.length ex]] false) ∧ OutR h g 12 a ss.length ex out ∧ ∀ (i : Nat) s, ss[i]? = some s → ∃ row, out[i]? = some row ∧ spRow g s row
theorem Acc.keep {h g g' : H} {sb lb : Nat} {ss : List Sp} {t : List UInt8} {lg : Bool} (o : Acc h g sb lb ss t lg) (hk : Kept g g') (h1 : sb < g.nx) (h2 : lb < g.nx) : Acc h g' sb lb ss t lg := by
  obtain ⟨a, ex, out, e1, e2, e3⟩ := o.list
  refine ⟨by rw [hk.2 lb h2]; exact o.long, o.told, a, ex, out, by rw [hk.2 sb h1]; exact e1, e2.keepR hk, fun i s hi => ?_⟩
  obtain ⟨row, w1, w2⟩ := e3 i s hi
  exact ⟨row, w1, spRow_kept w2 hk⟩
theorem cutB_true {b : UInt8} {l x y : List UInt8} (h : cutB b l = (x, y, true)) : l = x ++ b :: y ∧ b ∉ x := by
  unfold cutB at h
  split at h
  · rename_i h0
    cases h
    have hlt := fIdx_lt l b h0
    unfold fIdx at h0 hlt ⊢
    cases hi : l.findIdx? (fun c => c == b) with
    | none => rw [hi] at h0; simp at h0
    | some i =>
      simp only [Int.toNat_natCast]
      obtain ⟨h1, h2, h3⟩ := List.findIdx?_eq_some_iff_getElem.1 hi
      refine ⟨?_, fun hm => ?_⟩
      · have : l[i] = b := by simpa using h2
        rw [← this, List.getElem_cons_drop, List.take_append_drop]
      · obtain ⟨j, hj, e⟩ := List.getElem_of_mem hm
        rw [List.length_take] at hj
        have := h3 j (by omega)
        rw [List.getElem_take] at e
        simp [e] at this
  · cases h
theorem cutB_len {b : UInt8} {l : List UInt8} : (cutB b l).1.length ≤ l.length := by
  unfold cutB
  split
  · simp [List.length_take]; omega
  · simp
/-- The first line is no line of a cut. -/
def badT (r : List UInt8) : Prop := (cutB 10 r).1 ≠ cutW ∨ (cutB 10 r).2.2 = false
structure OverTo (h g : H) (sb lb : Nat) (s : List UInt8) (v : V) : Prop where
  kept : Kept h g
  is : ∃ ss t r lg at', v = .i .i64 at' ∧ Acc h g sb lb ss t lg ∧ s = t ++ r ∧ ((lg = false ∧ at' = -1 ∧ r = [] ∧ ss.length ≤ 4096) ∨ (lg = true ∧ at' = -1 ∧ ss.length = 4097) ∨ (lg = false ∧ at' = (ss.length : Nat) ∧ ss.length ≤ 4096 ∧ r ≠ [] ∧ badT r))
def OvLoop (h : H) (kR sb lb : Nat) (s : List UInt8) (m : Nat) (t : Tm) (g : H) : Prop :=
  ∃ ss tt r, m = r.length ∧ t.v 0 = .s r ∧ t.v 5 = .i .i64 (ss.length : Nat) ∧ t.v 1 = .f (.fn kR) [.p (some (lb, 0, 0)), .p (some (sb, 0, 0))] ∧ Acc h g sb lb ss tt false ∧ ss.length ≤ 4096 ∧ s = tt ++ r ∧ Kept h g ∧ sb < g.nx ∧ lb < g.nx
theorem over_runs {E : H → Bool} (hE : Eok E) {k kC kR kl kS kg ke kc ki kfo kH kse kr kF kw kT : Nat} (hA : pr.ext k = none) (hfn : pr.fn k = some (c_script_over kC kl)) (hC : pr.ext kC = some gCutS) (hRA : pr.ext kR = none) (hRf : pr.fn kR = some c_script_Read_1)
    (hlA : pr.ext kl = none) (hlf : pr.fn kl = some (c_script_line kS kfo kH kse kr)) (hSA : pr.ext kS = none) (hSf : pr.fn kS = some (c_strings_Split kg)) (hgA : pr.ext kg = none) (hgf : pr.fn kg = some (c_strings_genSplit ke kc ki)) (hc : pr.ext kc = some gCnt) (hi : pr.ext ki = some gIx1)
    (hfo : pr.ext kfo = none) (hff : pr.fn kfo = some c_script_forms) (hH : pr.ext kH = some gSuf) (hsA : pr.ext kse = none) (hsf : pr.fn kse = some (c_script_settings kw)) (hrA : pr.ext kr = none) (hrf : pr.fn kr = some (c_script_reads kF kw kT)) (hF : pr.ext kF = some gRF) (hW : pr.ext kw = some (gWhole E)) (hT : pr.ext kT = some gRT)
    {h g : H} {sb lb : Nat} {s : List UInt8} (hs : s.length < 1000000) (he : E h = true) (h4 : 4096 ≤ h.nx) (hk : Kept h g) (hacc : Acc h g sb lb [] [] false) (hsb : sb < g.nx) (hlb : lb < g.nx) (hs0 : h.nx ≤ sb) (hl0 : h.nx ≤ lb) (hne : sb ≠ lb) :
    Runs pr (.fn k) [.s s, .f (.fn kR) [.p (some (lb, 0, 0)), .p (some (sb, 0, 0))]] g (fun v g' => OverTo h g' sb lb s v) := by
  refine runs_of_wpF hA hfn ?_
  unfold wpF c_script_over
  refine ⟨by simp, ?_⟩
  have hc0 := @wpCall_ext pr kC gCutS hC
  simp only [↓STEP, SB, looked, behind, lookOk, AAct.kind, AOp.kind, wpRes, evRes, resV, AOp.ev, bin, binI, binS, shiftI, eqV, un, bound, boundO, fill, fillRows, aggOf, keyEq, findKey, putKey, V.cells, V.flat, byteOf, bytesOf, rdOf, H.wr, H.kOf, splice, isYl, ↓reduceIte, Nat.reduceEqDiff, Nat.reduceLeDiff, Nat.reduceLT, Nat.reduceAdd, Nat.reduceSub, Nat.reduceMul, Int.reduceLT, Int.reduceLE, Int.reduceEq, Int.reduceAdd, Int.reduceSub, Int.reduceMul, Int.reduceNeg, Int.reduceToNat, reduceCtorEq]
  refine wpA_loop_inv (OvLoop h kR sb lb s) ?_ (m := s.length) ?_
  · rintro m t g ⟨ss, tt, r, rfl, e0, e5, e1, acc, hss, rfl, hk, hsb, hlb⟩
    have heg : E g = true := hE h g hk.1 (fun i hi => hk.2 i (by omega)) he
    rw [List.length_append] at hs
    by_cases hr : r = []
    · subst hr
      simp only [↓STEP, SB, looked, behind, lookOk, AAct.kind, AOp.kind, wpRes, evRes, resV, AOp.ev, bin, binI, binS, shiftI, eqV, un, bound, boundO, fill, fillRows, aggOf, keyEq, findKey, putKey, V.cells, V.flat, byteOf, bytesOf, rdOf, H.wr, H.kOf, splice, isYl, ↓reduceIte, Nat.reduceEqDiff, Nat.reduceLeDiff, Nat.reduceLT, Nat.reduceAdd, Nat.reduceSub, Nat.reduceMul, Int.reduceLT, Int.reduceLE, Int.reduceEq, Int.reduceAdd, Int.reduceSub, Int.reduceMul, Int.reduceNeg, Int.reduceToNat, reduceCtorEq, e0, e5, e1]
      exact ⟨hk, ss, tt, [], false, -1, rfl, acc, by simp, .inl ⟨rfl, rfl, rfl, hss⟩⟩
    · have x0 : gCutS [.s r, .s [10]] g = some (.tup [.s (cutB 10 r).1, .s (cutB 10 r).2.1, .b (cutB 10 r).2.2], g) := if_pos (by omega)
      have hcl := cutB_len (b := 10) (l := r)
      have hbad : badT r = ((cutB 10 r).1 ≠ cutW ∨ (cutB 10 r).2.2 = false) := rfl
      have hct : ∀ x y, cutB 10 r = (x, y, true) → r = x ++ 10 :: y ∧ 10 ∉ x := fun x y => cutB_true
      generalize cutB 10 r = cc at *
      obtain ⟨l, rest, wh⟩ := cc
      simp only at x0 hcl hbad
      simp only [↓STEP, SB, looked, behind, lookOk, AAct.kind, AOp.kind, wpRes, evRes, resV, AOp.ev, bin, binI, binS, shiftI, eqV, un, bound, boundO, fill, fillRows, aggOf, keyEq, findKey, putKey, V.cells, V.flat, byteOf, bytesOf, rdOf, H.wr, H.kOf, splice, isYl, ↓reduceIte, Nat.reduceEqDiff, Nat.reduceLeDiff, Nat.reduceLT, Nat.reduceAdd, Nat.reduceSub, Nat.reduceMul, Int.reduceLT, Int.reduceLE, Int.reduceEq, Int.reduceAdd, Int.reduceSub, Int.reduceMul, Int.reduceNeg, Int.reduceToNat, reduceCtorEq, e0, e5, e1, hr, hc0, x0]
      refine Runs.mono (c := .fn kl) («as» := [.s l] ++ []) (line_runs hE hlA hlf hSA hSf hgA hgf hc hi hfo hff hH hsA hsf hrA hrf hF hW hT (l := l) (by omega) heg (by have := hk.1; omega)) ?_
      rintro v g2 ⟨hk2, hv⟩
      have hk3 : ∀ Y X, Kept g ((g2.push Y).set g2.nx X) := fun Y X => (Kept.push hk2).set hk2.1
      have hkh3 : ∀ Y X, Kept h ((g2.push Y).set g2.nx X) := fun Y X => hk.trans (hk3 Y X)
      have hzl : zRow.length = 12 := rfl
      have hzf : zRow.all V.flat = true := rfl
      rcases hv with ⟨rfl, hlc⟩ | ⟨row, s', rfl, hrow, ok', hl10⟩
      · cases wh with
        | true =>
          simp only [↓STEP, SB, looked, behind, lookOk, AAct.kind, AOp.kind, wpRes, evRes, resV, AOp.ev, bin, binI, binS, shiftI, eqV, un, bound, boundO, fill, fillRows, aggOf, keyEq, findKey, putKey, V.cells, V.flat, byteOf, bytesOf, rdOf, H.wr, H.kOf, splice, isYl, ↓reduceIte, Nat.reduceEqDiff, Nat.reduceLeDiff, Nat.reduceLT, Nat.reduceAdd, Nat.reduceSub, Nat.reduceMul, Int.reduceLT, Int.reduceLE, Int.reduceEq, Int.reduceAdd, Int.reduceSub, Int.reduceMul, Int.reduceNeg, Int.reduceToNat, reduceCtorEq, hzl, hzf, e5]
          exact ⟨hkh3 _ _, ss, tt, r, false, _, rfl, acc.keep (hk3 _ _) hsb hlb, rfl, .inr (.inr ⟨rfl, rfl, hss, hr, by rw [hbad]; exact .inl hlc⟩)⟩
        | false =>
          simp only [↓STEP, SB, looked, behind, lookOk, AAct.kind, AOp.kind, wpRes, evRes, resV, AOp.ev, bin, binI, binS, shiftI, eqV, un, bound, boundO, fill, fillRows, aggOf, keyEq, findKey, putKey, V.cells, V.flat, byteOf, bytesOf, rdOf, H.wr, H.kOf, splice, isYl, ↓reduceIte, Nat.reduceEqDiff, Nat.reduceLeDiff, Nat.reduceLT, Nat.reduceAdd, Nat.reduceSub, Nat.reduceMul, Int.reduceLT, Int.reduceLE, Int.reduceEq, Int.reduceAdd, Int.reduceSub, Int.reduceMul, Int.reduceNeg, Int.reduceToNat, reduceCtorEq, hzl, hzf, e5]
          exact ⟨hkh3 _ _, ss, tt, r, false, _, rfl, acc.keep (hk3 _ _) hsb hlb, rfl, .inr (.inr ⟨rfl, rfl, hss, hr, by rw [hbad]; exact .inl hlc⟩)⟩
      · have hrl : row.length = 12 := by obtain ⟨_, _, _, _, _, _, _, _, h, _⟩ := hrow; rw [h]; rfl
        have hr12 : List.take 12 row = row := List.take_of_length_le (by omega)
        have hrfl : row.all V.flat = true := by obtain ⟨_, _, _, _, _, _, _, _, h, _⟩ := hrow; rw [h]; rfl
        cases wh with
        | false =>
          simp only [↓STEP, SB, looked, behind, lookOk, AAct.kind, AOp.kind, wpRes, evRes, resV, AOp.ev, bin, binI, binS, shiftI, eqV, un, bound, boundO, fill, fillRows, aggOf, keyEq, findKey, putKey, V.cells, V.flat, byteOf, bytesOf, rdOf, H.wr, H.kOf, splice, isYl, ↓reduceIte, Nat.reduceEqDiff, Nat.reduceLeDiff, Nat.reduceLT, Nat.reduceAdd, Nat.reduceSub, Nat.reduceMul, Int.reduceLT, Int.reduceLE, Int.reduceEq, Int.reduceAdd, Int.reduceSub, Int.reduceMul, Int.reduceNeg, Int.reduceToNat, reduceCtorEq, hrl, hrfl, e5]
          exact ⟨hkh3 _ _, ss, tt, r, false, _, rfl, acc.keep (hk3 _ _) hsb hlb, rfl, .inr (.inr ⟨rfl, rfl, hss, hr, by rw [hbad]; exact .inr rfl⟩)⟩
        | true =>
          simp only [↓STEP, SB, looked, behind, lookOk, AAct.kind, AOp.kind, wpRes, evRes, resV, AOp.ev, bin, binI, binS, shiftI, eqV, un, bound, boundO, fill, fillRows, aggOf, keyEq, findKey, putKey, V.cells, V.flat, byteOf, bytesOf, rdOf, H.wr, H.kOf, splice, isYl, ↓reduceIte, Nat.reduceEqDiff, Nat.reduceLeDiff, Nat.reduceLT, Nat.reduceAdd, Nat.reduceSub, Nat.reduceMul, Int.reduceLT, Int.reduceLE, Int.reduceEq, Int.reduceAdd, Int.reduceSub, Int.reduceMul, Int.reduceNeg, Int.reduceToNat, reduceCtorEq, hrl, hrfl, hr12, e5, e1]
          obtain ⟨hrr, hl10n⟩ := hct l rest rfl
          have acc3 := acc.keep (hk3 (.rows 12 [[.i .i64 0, .i .i64 0, .i .i64 0, .i .i64 0, .sl none 0 0 true, .sl none 0 0 true, .b false, .i .i64 0, .i .i64 0, .i .i64 0, .i .i64 0, .i .i64 0]] false) (.rows 12 [row] false)) hsb hlb
          have hkk := hkh3 (.rows 12 [[.i .i64 0, .i .i64 0, .i .i64 0, .i .i64 0, .sl none 0 0 true, .sl none 0 0 true, .b false, .i .i64 0, .i .i64 0, .i .i64 0, .i .i64 0, .i .i64 0]] false) (.rows 12 [row] false)
          have hkg3 := hk3 (.rows 12 [[.i .i64 0, .i .i64 0, .i .i64 0, .i .i64 0, .sl none 0 0 true, .sl none 0 0 true, .b false, .i .i64 0, .i .i64 0, .i .i64 0, .i .i64 0, .i .i64 0]] false) (.rows 12 [row] false)
          have hrow3 : spRow ((g2.push (.rows 12 [[.i .i64 0, .i .i64 0, .i .i64 0, .i .i64 0, .sl none 0 0 true, .sl none 0 0 true, .b false, .i .i64 0, .i .i64 0, .i .i64 0, .i .i64 0, .i .i64 0]] false)).set g2.nx (.rows 12 [row] false)) s' row := spRow_kept hrow ((Kept.push Kept.refl).set (Nat.le_refl _))
          generalize (g2.push (.rows 12 [[V.i .i64 0, .i .i64 0, .i .i64 0, .i .i64 0, .sl none 0 0 true, .sl none 0 0 true, .b false, .i .i64 0, .i .i64 0, .i .i64 0, .i .i64 0, .i .i64 0]] false)).set g2.nx (.rows 12 [row] false) = g3 at *
          obtain ⟨a, ex, out, f1, f2, f3⟩ := acc3.list
          have hsb3 : sb < g3.nx := Nat.lt_of_lt_of_le hsb hkg3.1
          have hlb3 : lb < g3.nx := Nat.lt_of_lt_of_le hlb hkg3.1
          refine Runs.mono (c := .fn kR) («as» := [.i .i64 (ss.length : Nat), .agg row] ++ [.p (some (lb, 0, 0)), .p (some (sb, 0, 0))]) (read1_runs hRA hRf (h0 := h) acc3.long f1 f2 hlb3 hsb3 hne hl0 hs0 hrl hrfl (by omega)) ?_
          rintro v g4 ⟨rfl, tl⟩
          obtain ⟨b', q1, q2, q3, q4⟩ := tl.list
          have hol := f2.len
          have hkeep : ∀ i, i < g3.nx → (∀ all ro, g3.get i = some (.rows 3 all ro) → g4.get i = g3.get i) ∧ (∀ bs ro, g3.get i = some (.bytes bs ro) → g4.get i = g3.get i) := by
            intro i hi
            have hgen : (∀ r1 ro, g3.get i ≠ some (.rows 1 r1 ro)) → (∀ r1 ro, g3.get i ≠ some (.rows 12 r1 ro)) → g4.get i = g3.get i := fun h1 h12 => by
              refine tl.kept i hi (fun hh => ?_) (fun hh => ?_) (fun hh => ?_)
              · rw [hh] at h1; exact h1 _ _ acc3.long
              · rw [hh] at h1; exact h1 _ _ f1
              · rcases f2.is with ⟨rfl, _⟩ | ⟨b, rfl, _, _, _, h5, _⟩
                · cases hh
                · have : b = i := Option.some.inj hh
                  rw [← this] at h12; exact h12 _ _ h5
            exact ⟨fun all ro e => hgen (fun _ _ e' => by rw [e] at e'; cases e') (fun _ _ e' => by rw [e] at e'; cases e'), fun bs ro e => hgen (fun _ _ e' => by rw [e] at e'; cases e') (fun _ _ e' => by rw [e] at e'; cases e')⟩
          have hk4 : Kept h g4 := by
            refine ⟨Nat.le_trans hkk.1 tl.nx, fun i hi => ?_⟩
            rw [tl.kept i (Nat.lt_of_lt_of_le hi hkk.1) (by omega) (by omega) (fun hh => ?_)]
            · exact hkk.2 i hi
            · rcases f2.is with ⟨rfl, _⟩ | ⟨b, rfl, _, hb0, _⟩
              · cases hh
              · have : b = i := Option.some.inj hh
                omega
          have acc4 : ∀ lg, decide (4096 ≤ ((ss.length : Nat) : Int)) = lg → Acc h g4 sb lb (ss ++ [s']) (tt ++ (l ++ [10])) lg := fun lg hlg => by
            refine ⟨by rw [← hlg]; exact tl.long, .snoc ss tt s' l acc.told ok' hl10 hl10n, some (b', 0), false, out ++ [row], by simpa using q1, by simpa using q2, fun i x hx => ?_⟩
            by_cases hi : i < ss.length
            · rw [List.getElem?_append_left hi] at hx
              obtain ⟨rw0, w1, w2⟩ := f3 i x hx
              exact ⟨rw0, by rw [List.getElem?_append_left (by omega)]; exact w1, spRow_mut w2 tl.nx hkeep⟩
            · have hil : i = ss.length := by
                have := (List.getElem?_eq_some_iff.1 hx).1
                simp at this; omega
              subst hil
              rw [List.getElem?_append_right (Nat.le_refl _), Nat.sub_self] at hx
              simp at hx; subst hx
              exact ⟨row, by rw [List.getElem?_append_right (by omega), hol, Nat.sub_self]; rfl, spRow_mut hrow3 tl.nx hkeep⟩
          have hcat : tt ++ r = (tt ++ (l ++ [10])) ++ rest := by rw [hrr]; simp
          have w1 : Go.IntKind.wrap .i64 (((ss.length : Nat) : Int) + 1) = ((ss.length + 1 : Nat) : Int) := wrap_i64 (by omega) (by omega)
          by_cases h496 : (4096 : Int) ≤ ((ss.length : Nat) : Int)
          · have hd := decide_eq_true h496
            simp only [↓STEP, SB, looked, behind, lookOk, AAct.kind, AOp.kind, wpRes, evRes, resV, AOp.ev, bin, binI, binS, shiftI, eqV, un, bound, boundO, fill, fillRows, aggOf, keyEq, findKey, putKey, V.cells, V.flat, byteOf, bytesOf, rdOf, H.wr, H.kOf, splice, isYl, ↓reduceIte, Nat.reduceEqDiff, Nat.reduceLeDiff, Nat.reduceLT, Nat.reduceAdd, Nat.reduceSub, Nat.reduceMul, Int.reduceLT, Int.reduceLE, Int.reduceEq, Int.reduceAdd, Int.reduceSub, Int.reduceMul, Int.reduceNeg, Int.reduceToNat, reduceCtorEq, hd]
            exact ⟨hk4, ss ++ [s'], _, rest, true, -1, rfl, acc4 _ hd, hcat, .inr (.inl ⟨rfl, rfl, by simp; omega⟩)⟩
          · have hd := decide_eq_false h496
            simp only [↓STEP, SB, looked, behind, lookOk, AAct.kind, AOp.kind, wpRes, evRes, resV, AOp.ev, bin, binI, binS, shiftI, eqV, un, bound, boundO, fill, fillRows, aggOf, keyEq, findKey, putKey, V.cells, V.flat, byteOf, bytesOf, rdOf, H.wr, H.kOf, splice, isYl, ↓reduceIte, Nat.reduceEqDiff, Nat.reduceLeDiff, Nat.reduceLT, Nat.reduceAdd, Nat.reduceSub, Nat.reduceMul, Int.reduceLT, Int.reduceLE, Int.reduceEq, Int.reduceAdd, Int.reduceSub, Int.reduceMul, Int.reduceNeg, Int.reduceToNat, reduceCtorEq, hd, e5, w1]
            exact ⟨_, by rw [hrr]; simp; omega, ss ++ [s'], _, rest, rfl, by simp [v_pd, v_pd0], by simp [v_pd, v_pd0], by simp [v_pd, v_pd0, e1], acc4 _ hd, by simp; omega, hcat, hk4, Nat.lt_of_lt_of_le hsb3 tl.nx, Nat.lt_of_lt_of_le hlb3 tl.nx⟩
  · exact ⟨[], [], s, rfl, by simp [v_pd, v_args_cons], by simp [v_pd], by simp [v_pd, v_args_cons], hacc, by simp, rfl, hk, hsb, hlb⟩
end Am
/- Script texts: a text read, in the program. -/
namespace Am
set_option linter.unusedVariables false
set_option linter.unusedSimpArgs false
set_option maxRecDepth 20000
set_option maxHeartbeats 8000000
variable {pr : Prog}

/-- A text read. -/
structure ReadTo (h g : H) (s : List UInt8) (v : V) : Prop where
  kept : Kept h g
  is : ∃ p n ex k er, v = .tup [.sl p n n ex, .i .i64 k, .i .i64 er] ∧
    ((er = 0 ∧ k = 0 ∧ ∃ ss, n = ss.length ∧ Told ss s ∧ ss.length ≤ 4096 ∧ stepsIn g p n ss) ∨
     (er = 2 ∧ k = 4096 ∧ ∃ ss t r, Told ss t ∧ ss.length = 4096 ∧ s = t ++ r ∧ r ≠ []) ∨
     (er = 12 ∧ ∃ ss t r, k = (ss.length : Nat) ∧ ss.length < 4096 ∧ Told ss t ∧ s = t ++ r ∧ r ≠ [] ∧ badT r))
theorem told_last {ss : List Sp} {t : List UInt8} (h : Told ss t) : ss ≠ [] → ∃ ss' t' l, Told ss' t' ∧ ss.length = ss'.length + 1 ∧ t = t' ++ (l ++ [10]) := by
  cases h with
  | nil => intro hh; exact absurd rfl hh
  | snoc ss t s l h ok hl hn => intro _; exact ⟨ss, t, l, h, by simp, rfl⟩
theorem read_runs {E : H → Bool} (hE : Eok E) {k ko kC kR kl kS kg ke kc ki kfo kH kse kr kF kw kT : Nat} (hA : pr.ext k = none) (hfn : pr.fn k = some (c_script_Read ko kR)) (hoA : pr.ext ko = none) (hof : pr.fn ko = some (c_script_over kC kl)) (hC : pr.ext kC = some gCutS) (hRA : pr.ext kR = none) (hRf : pr.fn kR = some c_script_Read_1)
    (hlA : pr.ext kl = none) (hlf : pr.fn kl = some (c_script_line kS kfo kH kse kr)) (hSA : pr.ext kS = none) (hSf : pr.fn kS = some (c_strings_Split kg)) (hgA : pr.ext kg = none) (hgf : pr.fn kg = some (c_strings_genSplit ke kc ki)) (hc : pr.ext kc = some gCnt) (hi : pr.ext ki = some gIx1)
    (hfo : pr.ext kfo = none) (hff : pr.fn kfo = some c_script_forms) (hH : pr.ext kH = some gSuf) (hsA : pr.ext kse = none) (hsf : pr.fn kse = some (c_script_settings kw)) (hrA : pr.ext kr = none) (hrf : pr.fn kr = some (c_script_reads kF kw kT)) (hF : pr.ext kF = some gRF) (hW : pr.ext kw = some (gWhole E)) (hT : pr.ext kT = some gRT)
    {h : H} {s : List UInt8} (hs : s.length < 1000000) (he : E h = true) (h4 : 4096 ≤ h.nx) :
    Runs pr (.fn k) [.s s] h (fun v g => ReadTo h g s v) := by
  refine runs_of_wpF hA hfn ?_
  unfold wpF c_script_Read
  refine ⟨by simp, ?_⟩
  have hbig : ¬ (1048576 : Int) < (s.length : Int) := by omega
  simp only [↓STEP, SB, looked, behind, lookOk, AAct.kind, AOp.kind, wpRes, evRes, resV, AOp.ev, bin, binI, binS, shiftI, eqV, un, bound, boundO, fill, fillRows, aggOf, keyEq, findKey, putKey, V.cells, V.flat, byteOf, bytesOf, rdOf, H.wr, H.kOf, splice, isYl, ↓reduceIte, Nat.reduceEqDiff, Nat.reduceLeDiff, Nat.reduceLT, Nat.reduceAdd, Nat.reduceSub, Nat.reduceMul, Int.reduceLT, Int.reduceLE, Int.reduceEq, Int.reduceAdd, Int.reduceSub, Int.reduceMul, Int.reduceNeg, Int.reduceToNat, reduceCtorEq, hbig]
  have hk0 : Kept h (((h.push (.rows 1 [[.sl none 0 0 true]] false)).push (.rows 1 [[.b false]] false)).set (h.nx + 1) (.rows 1 [[.b false]] false)) := (Kept.push (Kept.push Kept.refl)).set (by omega)
  have hacc : Acc h (((h.push (.rows 1 [[.sl none 0 0 true]] false)).push (.rows 1 [[.b false]] false)).set (h.nx + 1) (.rows 1 [[.b false]] false)) h.nx (h.nx + 1) [] [] false := by
    refine ⟨by rw [H.get_set, if_pos rfl], .nil, none, true, [], ?_, ⟨hk0, rfl, .inl ⟨rfl, rfl, rfl⟩⟩, fun i s hi => by simp at hi⟩
    rw [H.get_set, if_neg (by omega), H.get_push, if_neg (by show h.nx ≠ h.nx + 1; omega), H.get_push, if_pos rfl]; rfl
  refine Runs.mono (c := .fn ko) («as» := [.s s, .f (.fn kR) [.p (some (h.nx + 1, 0, 0)), .p (some (h.nx, 0, 0))]] ++ []) (over_runs hE hoA hof hC hRA hRf hlA hlf hSA hSf hgA hgf hc hi hfo hff hH hsA hsf hrA hrf hF hW hT hs he h4 hk0 hacc (by simp [nx_push, nx_set]; omega) (by simp [nx_push, nx_set]) (Nat.le_refl _) (by omega) (by omega)) ?_
  rintro v g ⟨hk, ss, t, r, lg, at', rfl, acc, hst, hcase⟩
  have hlong := acc.long
  obtain ⟨a, ex, out, f1, f2, f3⟩ := acc.list
  have htold := acc.told
  have hsi : stepsIn g a ss.length ss := by
    refine ⟨rfl, ?_⟩
    rcases f2.is with ⟨_, h2, _⟩ | ⟨b, rfl, _, _, h4, h5, _⟩
    · exact .inl h2
    · exact .inr ⟨b, 0, out, false, rfl, h4, h5, fun i x hx => by rw [Nat.zero_add]; exact f3 i x hx⟩
  rcases hcase with ⟨rfl, rfl, rfl, hss⟩ | ⟨rfl, rfl, hss⟩ | ⟨rfl, rfl, hss, hr, hbad⟩
  · simp only [↓STEP, SB, looked, behind, lookOk, AAct.kind, AOp.kind, wpRes, evRes, resV, AOp.ev, bin, binI, binS, shiftI, eqV, un, bound, boundO, fill, fillRows, aggOf, keyEq, findKey, putKey, V.cells, V.flat, byteOf, bytesOf, rdOf, H.wr, H.kOf, splice, isYl, ↓reduceIte, Nat.reduceEqDiff, Nat.reduceLeDiff, Nat.reduceLT, Nat.reduceAdd, Nat.reduceSub, Nat.reduceMul, Int.reduceLT, Int.reduceLE, Int.reduceEq, Int.reduceAdd, Int.reduceSub, Int.reduceMul, Int.reduceNeg, Int.reduceToNat, reduceCtorEq, hlong, f1]
    exact ⟨hk, a, ss.length, ex, 0, 0, rfl, .inl ⟨rfl, rfl, ss, rfl, by rw [hst, List.append_nil]; exact htold, hss, hsi⟩⟩
  · simp only [↓STEP, SB, looked, behind, lookOk, AAct.kind, AOp.kind, wpRes, evRes, resV, AOp.ev, bin, binI, binS, shiftI, eqV, un, bound, boundO, fill, fillRows, aggOf, keyEq, findKey, putKey, V.cells, V.flat, byteOf, bytesOf, rdOf, H.wr, H.kOf, splice, isYl, ↓reduceIte, Nat.reduceEqDiff, Nat.reduceLeDiff, Nat.reduceLT, Nat.reduceAdd, Nat.reduceSub, Nat.reduceMul, Int.reduceLT, Int.reduceLE, Int.reduceEq, Int.reduceAdd, Int.reduceSub, Int.reduceMul, Int.reduceNeg, Int.reduceToNat, reduceCtorEq, hlong, f1]
    obtain ⟨ss', t', l, q1, q2, q3⟩ := told_last htold (by intro hh; rw [hh] at hss; simp at hss)
    exact ⟨hk, none, 0, true, 4096, 2, rfl, .inr (.inl ⟨rfl, rfl, ss', t', l ++ [10] ++ r, q1, by omega, by rw [hst, q3]; simp, by simp⟩)⟩
  · have h0 : (0 : Int) ≤ ((ss.length : Nat) : Int) := by omega
    by_cases h496 : (4096 : Int) ≤ ((ss.length : Nat) : Int)
    · simp only [↓STEP, SB, looked, behind, lookOk, AAct.kind, AOp.kind, wpRes, evRes, resV, AOp.ev, bin, binI, binS, shiftI, eqV, un, bound, boundO, fill, fillRows, aggOf, keyEq, findKey, putKey, V.cells, V.flat, byteOf, bytesOf, rdOf, H.wr, H.kOf, splice, isYl, ↓reduceIte, Nat.reduceEqDiff, Nat.reduceLeDiff, Nat.reduceLT, Nat.reduceAdd, Nat.reduceSub, Nat.reduceMul, Int.reduceLT, Int.reduceLE, Int.reduceEq, Int.reduceAdd, Int.reduceSub, Int.reduceMul, Int.reduceNeg, Int.reduceToNat, reduceCtorEq, hlong, f1, h496]
      exact ⟨hk, none, 0, true, 4096, 2, rfl, .inr (.inl ⟨rfl, rfl, ss, t, r, htold, by omega, hst, hr⟩)⟩
    · simp only [↓STEP, SB, looked, behind, lookOk, AAct.kind, AOp.kind, wpRes, evRes, resV, AOp.ev, bin, binI, binS, shiftI, eqV, un, bound, boundO, fill, fillRows, aggOf, keyEq, findKey, putKey, V.cells, V.flat, byteOf, bytesOf, rdOf, H.wr, H.kOf, splice, isYl, ↓reduceIte, Nat.reduceEqDiff, Nat.reduceLeDiff, Nat.reduceLT, Nat.reduceAdd, Nat.reduceSub, Nat.reduceMul, Int.reduceLT, Int.reduceLE, Int.reduceEq, Int.reduceAdd, Int.reduceSub, Int.reduceMul, Int.reduceNeg, Int.reduceToNat, reduceCtorEq, hlong, f1, h496, h0]
      exact ⟨hk, none, 0, true, _, 12, rfl, .inr (.inr ⟨rfl, ss, t, r, rfl, by omega, htold, hst, hr, hbad⟩)⟩
end Am
