/- Script texts: a line read, in the program. -/
import Derived.Test.YtjcchmmmbegamaaDoorScrO
namespace Am
set_option linter.unusedVariables false
set_option linter.unusedSimpArgs false
set_option maxRecDepth 20000
set_option maxHeartbeats 8000000
variable {pr : Prog}

theorem split_runs {k kg ke kc ki : Nat} (hA : pr.ext k = none) (hfn : pr.fn k = some (c_strings_Split kg)) (hgA : pr.ext kg = none) (hgf : pr.fn kg = some (c_strings_genSplit ke kc ki)) (hc : pr.ext kc = some gCnt) (hi : pr.ext ki = some gIx1) {h : H} {l : List UInt8} {b : UInt8} (hl : l.length ≤ 100000000) :
    Runs pr (.fn k) [.s l, .s [b]] h (fun v g => ∃ B n, v = .sl (some (B, 0)) n n true ∧ WordsAt h g B n (splitF b l)) := by
  refine runs_of_wpF hA hfn ?_
  unfold wpF c_strings_Split
  refine ⟨by simp, ?_⟩
  simp only [↓STEP, SB, looked, behind, lookOk, AAct.kind, AOp.kind, wpRes, evRes, resV, AOp.ev, bin, binI, binS, shiftI, eqV, un, bound, boundO, fill, fillRows, aggOf, keyEq, findKey, putKey, V.cells, V.flat, byteOf, bytesOf, rdOf, H.wr, H.kOf, splice, isYl, ↓reduceIte, Nat.reduceEqDiff, Nat.reduceLeDiff, Nat.reduceLT, Nat.reduceAdd, Nat.reduceSub, Nat.reduceMul, Int.reduceLT, Int.reduceLE, Int.reduceEq, Int.reduceAdd, Int.reduceSub, Int.reduceMul, Int.reduceNeg, Int.reduceToNat, reduceCtorEq]
  refine Runs.mono (c := .fn kg) («as» := [.s l, .s [b], .i .i64 0, .i .i64 (-1)] ++ []) (genSplit_runs hgA hgf hc hi hl) ?_
  rintro v g ⟨B, n, rfl, hw⟩
  exact ⟨B, n, rfl, hw⟩
theorem suffixS_ok : OkF pr c_stringslite_HasSuffix gSuf := by
  intro ys h v h' hg
  unfold gSuf at hg
  split at hg
  case h_2 => cases hg
  rename_i l b
  split at hg
  case isFalse => cases hg
  rename_i hl
  cases hg
  unfold wpF c_stringslite_HasSuffix
  refine ⟨by simp, ?_⟩
  by_cases hn : (1 : Int) ≤ (l.length : Int)
  · have hne : l ≠ [] := by rintro rfl; simp at hn
    have w1 : Go.IntKind.wrap .i64 ((l.length : Int) - 1) = ((l.length - 1 : Nat) : Int) := by rw [wrap_i64 (by omega) (by omega)]; omega
    have u1 : ((l.length - 1 : Nat) : Int) ≤ (l.length : Int) := by omega
    simp only [↓STEP, SB, looked, behind, lookOk, AAct.kind, AOp.kind, wpRes, evRes, resV, AOp.ev, bin, binI, binS, shiftI, eqV, un, bound, boundO, fill, fillRows, aggOf, keyEq, findKey, putKey, V.cells, V.flat, byteOf, bytesOf, rdOf, H.wr, H.kOf, splice, isYl, ↓reduceIte, Nat.reduceEqDiff, Nat.reduceLeDiff, Nat.reduceLT, Nat.reduceAdd, Nat.reduceSub, Nat.reduceMul, Int.reduceLT, Int.reduceLE, Int.reduceEq, Int.reduceAdd, Int.reduceSub, Int.reduceMul, Int.reduceNeg, Int.reduceToNat, reduceCtorEq, hn, w1, u1, List.length_singleton, List.length_cons, List.length_nil]
    refine Abs.out ?_ rfl Kept.refl
    congr 2
    rw [List.take_length]
    obtain ⟨r, x, rfl⟩ : ∃ r x, l = r ++ [x] := ⟨l.dropLast, l.getLast hne, (List.dropLast_concat_getLast hne).symm⟩
    simp
  · have : l = [] := List.eq_nil_of_length_eq_zero (by omega)
    subst this
    simp only [↓STEP, SB, looked, behind, lookOk, AAct.kind, AOp.kind, wpRes, evRes, resV, AOp.ev, bin, binI, binS, shiftI, eqV, un, bound, boundO, fill, fillRows, aggOf, keyEq, findKey, putKey, V.cells, V.flat, byteOf, bytesOf, rdOf, H.wr, H.kOf, splice, isYl, ↓reduceIte, Nat.reduceEqDiff, Nat.reduceLeDiff, Nat.reduceLT, Nat.reduceAdd, Nat.reduceSub, Nat.reduceMul, Int.reduceLT, Int.reduceLE, Int.reduceEq, Int.reduceAdd, Int.reduceSub, Int.reduceMul, Int.reduceNeg, Int.reduceToNat, reduceCtorEq, List.length_singleton, List.length_cons, List.length_nil]
    exact Abs.out rfl rfl Kept.refl
theorem suffix_ok {k : Nat} (hw : pr.ext k = some gSuf) : OkF pr (c_strings_HasSuffix k) gSuf := by
  intro ys h v h' hg
  have hg0 := hg
  unfold gSuf at hg
  split at hg
  case h_2 => cases hg
  rename_i l b
  split at hg
  case isFalse => cases hg
  cases hg
  have hc := @wpCall_ext pr k gSuf hw
  unfold wpF c_strings_HasSuffix
  refine ⟨by simp, ?_⟩
  simp only [↓STEP, SB, looked, behind, lookOk, AAct.kind, AOp.kind, wpRes, evRes, resV, AOp.ev, bin, binI, binS, shiftI, eqV, un, bound, boundO, fill, fillRows, aggOf, keyEq, findKey, putKey, V.cells, V.flat, byteOf, bytesOf, rdOf, H.wr, H.kOf, splice, isYl, ↓reduceIte, Nat.reduceEqDiff, Nat.reduceLeDiff, Nat.reduceLT, Nat.reduceAdd, Nat.reduceSub, Nat.reduceMul, Int.reduceLT, Int.reduceLE, Int.reduceEq, Int.reduceAdd, Int.reduceSub, Int.reduceMul, Int.reduceNeg, Int.reduceToNat, reduceCtorEq, hc, hg0]
  exact Abs.out rfl rfl Kept.refl

/-! ### Which kind of line -/
def kfF (w : List UInt8) : Nat → Nat
  | 0 => 0
  | i + 1 => if 0 < i ∧ (formsL.getD i ([], [])).1 = w then i else kfF w i
theorem kfF_is (w : List UInt8) : ∀ i, kfF w i = 0 ∨ (kfF w i < i ∧ (formsL.getD (kfF w i) ([], [])).1 = w)
  | 0 => .inl rfl
  | i + 1 => by
    rw [kfF]
    split
    · rename_i h; exact .inr ⟨Nat.lt_succ_self _, h.2⟩
    · rcases kfF_is w i with h | ⟨h1, h2⟩
      · exact .inl h
      · exact .inr ⟨by omega, h2⟩
theorem kfF_cut : kfF [99, 117, 116] 10 = 9 := by decide
theorem forms_nodup : ∀ i, i < 10 → (formsL.getD i ([], [])).2.Nodup := by decide
theorem forms_C : ∀ i, i < 10 → ∀ j, j < (formsL.getD i ([], [])).2.length → (formsL.getD i ([], [])).2.getD j 0 = 67 → j + 1 = (formsL.getD i ([], [])).2.length := by decide
theorem forms_suf : ∀ i, i < 10 → (decide ((formsL.getD i ([], [])).2.getLast? = some 67)) = (formsL.getD i ([], [])).2.contains 67 := by decide
def zRow : List V := [.i .i64 0, .i .i64 0, .i .i64 0, .i .i64 0, .sl none 0 0 true, .sl none 0 0 true, .b false, .i .i64 0, .i .i64 0, .i .i64 0, .i .i64 0, .i .i64 0]
def cutW : List UInt8 := [99, 117, 116]
/-- A line read. -/
structure LineTo (h g : H) (l : List UInt8) (v : V) : Prop where
  kept : Kept h g
  is : (v = .tup [.agg zRow, .b false] ∧ l ≠ cutW) ∨ (∃ row s, v = .tup [.agg row, .b true] ∧ spRow g s row ∧ SpR s ∧ lineF s = some (l ++ [10]))
def LnLoop (h0 : H) (w0 : List UInt8) (all : List (List V)) (n B fb F : Nat) (m : Nat) (t : Tm) (g : H) : Prop :=
  ∃ i : Nat, m = 10 - i ∧ i ≤ 10 ∧ t.v 17 = .i .i64 (i : Nat) ∧ t.v 16 = .i .i64 10 ∧ t.v 15 = .sl (some (F, 0)) 10 10 true ∧ t.v 4 = .sl (some (B, 0)) n n true ∧ t.v 5 = .i .i64 (kfF w0 i : Nat) ∧ t.v 6 = .p (some (fb, 0, 0)) ∧ t.v 2 = .p (some (h0.nx, 0, 0)) ∧
    h0.nx < B ∧ B < fb ∧ fb < F ∧ F < g.nx ∧ g.get h0.nx = some (.rows 12 [zRow] false) ∧ g.get B = some (.rows 1 all false) ∧ g.get fb = some (.rows 2 [formRow (formsL.getD (kfF w0 i) ([], []))] false) ∧ g.get F = some (.rows 2 (formsL.map formRow) false) ∧ Kept h0 g
theorem Kept.but {h g g' : H} {b : Nat} (hk : Kept h g) (hb : KeptBut b g g') (hn : h.nx ≤ b) : Kept h g' :=
  ⟨Nat.le_trans hk.1 hb.1, fun i hi => (hb.2 i (Nat.lt_of_lt_of_le hi hk.1) (by omega)).trans (hk.2 i hi)⟩
def RdLoop (h0 : H) (l w P : List UInt8) (wr : List (List UInt8)) (allw : List (List V)) (kk n B fb b : Nat) (m : Nat) (t : Tm) (g : H) : Prop :=
  ∃ (i : Nat) (row : List V) (s : Sp), m = P.length - i ∧ i ≤ P.length ∧ t.v 59 = .i .i64 (i : Nat) ∧ t.v 58 = .i .i64 (P.length : Nat) ∧ t.v 6 = .p (some (fb, 0, 0)) ∧ t.v 4 = .sl (some (B, 1)) (n - 1) (n - 1) true ∧ t.v 10 = .p (some (b, 0, 0)) ∧ t.v 2 = .p (some (h0.nx, 0, 0)) ∧
    b < g.nx ∧ g.get h0.nx = some (.rows 12 [zRow] false) ∧ g.get B = some (.rows 1 allw false) ∧ g.get fb = some (.rows 2 [[.s w, .s P]] false) ∧ g.get b = some (.rows 12 [row] false) ∧ spRow g s row ∧ SpR s ∧ s.k = (kk : Nat) ∧ (66 ∉ P.take i → s.d = []) ∧ 67 ∉ P.take i ∧
    (∀ j c w', j < i → P[j]? = some c → wr[j]? = some w' → partF s (c.toNat : Int) = (w', true)) ∧ Kept h0 g
theorem i64_0 : i64In 0 := ⟨by decide, by decide⟩
theorem line_of {kk : Nat} {w : List UInt8} {P : List UInt8} {ws : List (List UInt8)} {s : Sp} (hw : (formsL.getD kk ([], [])).1 = w) (hP : (formsL.getD kk ([], [])).2 = P) (h1 : 1 ≤ kk) (h10 : kk < 10) (hsk : s.k = (kk : Nat)) (hp : P.map (fun c : UInt8 => partF s (c.toNat : Int)) = ws.map fun x => (x, true)) : lineF s = some (joinS (w :: ws) [32] ++ [10]) := by
  have h2 : P.map (fun c : UInt8 => (partF s (c.toNat : Int)).1) = ws := by
    have := congrArg (List.map Prod.fst) hp
    simpa [List.map_map, Function.comp_def] using this
  have h3 : P.all (fun c => (partF s (c.toNat : Int)).2) = true := by
    refine List.all_eq_true.2 fun (c : UInt8) hc => ?_
    have : partF s (c.toNat : Int) ∈ ws.map fun x => (x, true) := by rw [← hp]; exact List.mem_map_of_mem hc
    obtain ⟨x, _, e⟩ := List.mem_map.1 this
    rw [← e]
  unfold lineF
  rw [if_neg (by omega), hsk, Int.toNat_natCast, hP, hw, if_pos h3, h2]
theorem map_of {P : List UInt8} {ws : List (List UInt8)} {s : Sp} (hl : P.length = ws.length) (h : ∀ (j : Nat) (c : UInt8) (w' : List UInt8), P[j]? = some c → ws[j]? = some w' → partF s (c.toNat : Int) = (w', true)) : P.map (fun c : UInt8 => partF s (c.toNat : Int)) = ws.map fun x => (x, true) := by
  apply List.ext_getElem?
  intro j
  rw [List.getElem?_map, List.getElem?_map]
  by_cases hj : j < P.length
  · have h1 := List.getElem?_eq_getElem hj
    have h2 := List.getElem?_eq_getElem (l := ws) (i := j) (by omega)
    rw [h1, h2, Option.map_some, Option.map_some, h j _ _ h1 h2]
  · rw [List.getElem?_eq_none (by omega), List.getElem?_eq_none (by omega)]; rfl
theorem line_runs {E : H → Bool} (hE : Eok E) {k kS kg ke kc ki kfo kH kse kr kF kw kT : Nat} (hA : pr.ext k = none) (hfn : pr.fn k = some (c_script_line kS kfo kH kse kr)) (hSA : pr.ext kS = none) (hSf : pr.fn kS = some (c_strings_Split kg)) (hgA : pr.ext kg = none) (hgf : pr.fn kg = some (c_strings_genSplit ke kc ki)) (hc : pr.ext kc = some gCnt) (hi : pr.ext ki = some gIx1)
    (hfo : pr.ext kfo = none) (hff : pr.fn kfo = some c_script_forms) (hH : pr.ext kH = some gSuf) (hsA : pr.ext kse = none) (hsf : pr.fn kse = some (c_script_settings kw)) (hrA : pr.ext kr = none) (hrf : pr.fn kr = some (c_script_reads kF kw kT)) (hF : pr.ext kF = some gRF) (hW : pr.ext kw = some (gWhole E)) (hT : pr.ext kT = some gRT)
    {h : H} {l : List UInt8} (hl : l.length ≤ 1000000) (he : E h = true) (h4 : 4096 ≤ h.nx) : Runs pr (.fn k) [.s l] h (fun v g => LineTo h g l v) := by
  refine runs_of_wpF hA hfn ?_
  unfold wpF c_script_line
  refine ⟨by simp, ?_⟩
  have hc0 := @wpCall_ext pr kH gSuf hH
  simp only [↓STEP, SB, looked, behind, lookOk, AAct.kind, AOp.kind, wpRes, evRes, resV, AOp.ev, bin, binI, binS, shiftI, eqV, un, bound, boundO, fill, fillRows, aggOf, keyEq, findKey, putKey, V.cells, V.flat, byteOf, bytesOf, rdOf, H.wr, H.kOf, splice, isYl, ↓reduceIte, Nat.reduceEqDiff, Nat.reduceLeDiff, Nat.reduceLT, Nat.reduceAdd, Nat.reduceSub, Nat.reduceMul, Int.reduceLT, Int.reduceLE, Int.reduceEq, Int.reduceAdd, Int.reduceSub, Int.reduceMul, Int.reduceNeg, Int.reduceToNat, reduceCtorEq]
  refine Runs.mono (c := .fn kS) («as» := [.s l, .s [32]] ++ []) (split_runs hSA hSf hgA hgf hc hi (by omega)) ?_
  rintro v g ⟨B, n, rfl, wB⟩
  have hB1 := wB.lo
  have hB2 := wB.hi
  have hBg := wB.get
  have hnx1 : ∀ X : Blk, (h.push X).nx = h.nx + 1 := fun X => rfl
  rw [hnx1] at hB1
  have hz : g.get h.nx = some (.rows 12 [zRow] false) := by rw [wB.kept.2 h.nx (by rw [hnx1]; omega), H.get_push, if_pos rfl]; rfl
  have hkg : Kept h g := (Kept.push Kept.refl).trans wB.kept
  refine Runs.mono (c := .fn kfo) («as» := [] ++ []) (forms_runs hfo hff) ?_
  rintro v g1 ⟨F, rfl, hF1, hF2, hgF, hk1⟩
  have hnx2 : ((g.push (.rows 2 [[.s [], .s []]] false)).set g.nx (.rows 2 [[.s [], .s []]] false)).nx = g.nx + 1 := rfl
  rw [hnx2] at hF1
  have hk2 : Kept g g1 := by
    refine Kept.trans ?_ hk1
    exact (Kept.push Kept.refl).set (Nat.le_refl _)
  have hfb : g1.get g.nx = some (.rows 2 [[.s [], .s []]] false) := by rw [hk1.2 g.nx (by rw [hnx2]; omega), H.get_set, if_pos rfl]
  have hz1 : g1.get h.nx = some (.rows 12 [zRow] false) := by rw [hk2.2 h.nx (by omega)]; exact hz
  have hB1' : g1.get B = some (.rows 1 ((splitF 32 l).map sRow) false) := by rw [hk2.2 B hB2]; exact hBg
  have hkh1 : Kept h g1 := hkg.trans hk2
  obtain ⟨w0, wr, hsp⟩ : ∃ w0 wr, splitF 32 l = w0 :: wr := by
    cases e : splitF 32 l with
    | nil => exact absurd e (splitF_ne 32 l)
    | cons w0 wr => exact ⟨w0, wr, rfl⟩
  have hjoin := splitF_join 32 l
  have hwlen := wB.len
  have hsl := splitF_len 32 l
  rw [hsp] at hB1' hjoin hwlen hsl
  rw [List.length_cons] at hwlen
  have hcl : l.count 32 ≤ l.length := List.count_le_length
  have hn1 : (0 : Int) < (n : Int) := by omega
  have h0all : (List.map sRow (w0 :: wr))[0]? = some [.s w0] := rfl
  have hwords : ∀ j w, wr[j]? = some w → (List.map sRow (w0 :: wr))[1 + j]? = some [.s w] := fun j w hw => by
    rw [Nat.add_comm, List.map_cons, List.getElem?_cons_succ, List.getElem?_map, hw]; rfl
  have hwl : ∀ w, w ∈ wr → w.length ≤ 1000000 := by
    intro w hw
    have hj : (joinS (w0 :: wr) [32]).length ≤ 1000000 := by rw [hjoin]; exact hl
    have : w.length ≤ ((wr.map ([32] ++ ·)).flatten).length := by
      clear hj hwords h0all hn1 hsp hB1' hjoin hwlen hsl
      induction wr with
      | nil => cases hw
      | cons y ys ih =>
        simp only [List.map_cons, List.flatten_cons, List.length_append]
        rcases List.mem_cons.1 hw with rfl | hw
        · simp; omega
        · have := ih hw; omega
    simp only [joinS, List.length_append] at hj
    omega
  generalize hallw : List.map sRow (w0 :: wr) = allw at *
  have hcut : l = cutW → w0 = cutW ∧ wr = [] := by
    rintro rfl
    have : splitF 32 cutW = [cutW] := by decide
    rw [this] at hsp; cases hsp; exact ⟨rfl, rfl⟩
  clear hsp hBg hz hk1 wB
  simp only [↓STEP, SB, looked, behind, lookOk, AAct.kind, AOp.kind, wpRes, evRes, resV, AOp.ev, bin, binI, binS, shiftI, eqV, un, bound, boundO, fill, fillRows, aggOf, keyEq, findKey, putKey, V.cells, V.flat, byteOf, bytesOf, rdOf, H.wr, H.kOf, splice, isYl, ↓reduceIte, Nat.reduceEqDiff, Nat.reduceLeDiff, Nat.reduceLT, Nat.reduceAdd, Nat.reduceSub, Nat.reduceMul, Int.reduceLT, Int.reduceLE, Int.reduceEq, Int.reduceAdd, Int.reduceSub, Int.reduceMul, Int.reduceNeg, Int.reduceToNat, reduceCtorEq]
  refine wpA_loop_inv (LnLoop h w0 allw n B g.nx F) ?_ (m := 10) ?_
  · rintro m t g2 ⟨i, rfl, hi, e17, e16, e15, e4, e5, e6, e2, q1, q2, q3, q4, gz, gB, gf, gF, hk⟩
    by_cases hlt : (i : Int) < 10
    · have hf2 : (formsL.map formRow)[i]? = some [.s (formsL.getD i ([], [])).1, .s (formsL.getD i ([], [])).2] := by
        have hl : i < formsL.length := by show i < 10; omega
        rw [List.getElem?_map, List.getElem?_eq_getElem hl, List.getD_eq_getElem?_getD, List.getElem?_eq_getElem hl]; rfl
      have hkf := kfF_is w0 i
      have wi : Go.IntKind.wrap .i64 ((i : Int) + 1) = ((i + 1 : Nat) : Int) := wrap_i64 (by omega) (by omega)
      have hstep : kfF w0 (i + 1) = if 0 < i ∧ (formsL.getD i ([], [])).1 = w0 then i else kfF w0 i := rfl
      have m1 : ¬ B = g2.nx := by omega
      have m2 : ¬ g.nx = g2.nx := by omega
      have m3 : ¬ F = g2.nx := by omega
      have m4 : ¬ h.nx = g2.nx := by omega
      have hfr2 : ∀ x : List UInt8 × List UInt8, (formRow x).length = 2 := fun x => rfl
      have hfr2d : ∀ x : List UInt8 × List UInt8, List.drop 2 (formRow x) = [] := fun x => rfl
      by_cases hi0 : (0 : Int) < (i : Int)
      · by_cases hw : (formsL.getD i ([], [])).1 = w0
        · rw [if_pos ⟨by omega, hw⟩] at hstep
          generalize hfi : formsL.getD i ([], []) = fi at *
          obtain ⟨f1, f2⟩ := fi
          simp only at hf2 hw
          subst hw
          simp only [↓STEP, SB, looked, behind, lookOk, AAct.kind, AOp.kind, wpRes, evRes, resV, AOp.ev, bin, binI, binS, shiftI, eqV, un, bound, boundO, fill, fillRows, aggOf, keyEq, findKey, putKey, V.cells, V.flat, byteOf, bytesOf, rdOf, H.wr, H.kOf, splice, isYl, ↓reduceIte, Nat.reduceEqDiff, Nat.reduceLeDiff, Nat.reduceLT, Nat.reduceAdd, Nat.reduceSub, Nat.reduceMul, Int.reduceLT, Int.reduceLE, Int.reduceEq, Int.reduceAdd, Int.reduceSub, Int.reduceMul, Int.reduceNeg, Int.reduceToNat, reduceCtorEq, e17, e16, e15, e4, e5, e6, e2, hlt, gF, hf2, hi0, gB, h0all, m1, m2, m3, gf, hn1, hfr2, hfr2d]
          refine ⟨_, by omega, i + 1, rfl, by omega, by simp [v_pd, v_pd0, wi], by simp [v_pd, v_pd0, e16], by simp [v_pd, v_pd0, e15], by simp [v_pd, v_pd0, e4], by simp [v_pd, v_pd0, hstep], by simp [v_pd, v_pd0, e6], by simp [v_pd, v_pd0, e2], q1, q2, q3, by simp [nx_push, nx_set]; omega, ?_, ?_, ?_, ?_, ((Kept.push hk).set (by omega)).set (by omega)⟩
          · rw [H.get_set, if_neg (by omega), H.get_set, if_neg m4, H.get_push, if_neg m4]; exact gz
          · rw [H.get_set, if_neg (by omega), H.get_set, if_neg m1, H.get_push, if_neg m1]; exact gB
          · rw [H.get_set, if_pos rfl, hstep, hfi]; rfl
          · rw [H.get_set, if_neg (by omega), H.get_set, if_neg m3, H.get_push, if_neg m3]; exact gF
        · rw [if_neg (fun hh => hw hh.2)] at hstep
          generalize hfi : formsL.getD i ([], []) = fi at *
          obtain ⟨f1, f2⟩ := fi
          simp only at hf2 hw
          simp only [↓STEP, SB, looked, behind, lookOk, AAct.kind, AOp.kind, wpRes, evRes, resV, AOp.ev, bin, binI, binS, shiftI, eqV, un, bound, boundO, fill, fillRows, aggOf, keyEq, findKey, putKey, V.cells, V.flat, byteOf, bytesOf, rdOf, H.wr, H.kOf, splice, isYl, ↓reduceIte, Nat.reduceEqDiff, Nat.reduceLeDiff, Nat.reduceLT, Nat.reduceAdd, Nat.reduceSub, Nat.reduceMul, Int.reduceLT, Int.reduceLE, Int.reduceEq, Int.reduceAdd, Int.reduceSub, Int.reduceMul, Int.reduceNeg, Int.reduceToNat, reduceCtorEq, e17, e16, e15, e4, e5, e6, e2, hlt, gF, hf2, hi0, gB, h0all, m1, m2, m3, gf, hn1, hw]
          refine ⟨_, by omega, i + 1, rfl, by omega, by simp [v_pd, v_pd0, wi], by simp [v_pd, v_pd0, e16], by simp [v_pd, v_pd0, e15], by simp [v_pd, v_pd0, e4], by simp [v_pd, v_pd0, hstep, e5], by simp [v_pd, v_pd0, e6], by simp [v_pd, v_pd0, e2], q1, q2, q3, by simp [nx_push, nx_set]; omega, ?_, ?_, ?_, ?_, hk.trans (by (repeat (first | exact Kept.refl | apply Kept.push | refine Kept.kill ?_ (by omega) | refine Kept.set ?_ (by omega))))⟩
          · rw [H.get_set, if_neg m4, H.get_push, if_neg m4]; exact gz
          · rw [H.get_set, if_neg m1, H.get_push, if_neg m1]; exact gB
          · rw [H.get_set, if_neg m2, H.get_push, if_neg m2, hstep]; exact gf
          · rw [H.get_set, if_neg m3, H.get_push, if_neg m3]; exact gF
      · rw [if_neg (fun hh => hi0 (by omega))] at hstep
        simp only [↓STEP, SB, looked, behind, lookOk, AAct.kind, AOp.kind, wpRes, evRes, resV, AOp.ev, bin, binI, binS, shiftI, eqV, un, bound, boundO, fill, fillRows, aggOf, keyEq, findKey, putKey, V.cells, V.flat, byteOf, bytesOf, rdOf, H.wr, H.kOf, splice, isYl, ↓reduceIte, Nat.reduceEqDiff, Nat.reduceLeDiff, Nat.reduceLT, Nat.reduceAdd, Nat.reduceSub, Nat.reduceMul, Int.reduceLT, Int.reduceLE, Int.reduceEq, Int.reduceAdd, Int.reduceSub, Int.reduceMul, Int.reduceNeg, Int.reduceToNat, reduceCtorEq, e17, e16, e15, e4, e5, e6, e2, hlt, gF, hf2, hi0]
        refine ⟨_, by omega, i + 1, rfl, by omega, by simp [v_pd, v_pd0, wi], by simp [v_pd, v_pd0, e16], by simp [v_pd, v_pd0, e15], by simp [v_pd, v_pd0, e4], by simp [v_pd, v_pd0, hstep, e5], by simp [v_pd, v_pd0, e6], by simp [v_pd, v_pd0, e2], q1, q2, q3, by simp [nx_push, nx_set]; omega, ?_, ?_, ?_, ?_, hk.trans (by (repeat (first | exact Kept.refl | apply Kept.push | refine Kept.kill ?_ (by omega) | refine Kept.set ?_ (by omega))))⟩
        · rw [H.get_set, if_neg m4, H.get_push, if_neg m4]; exact gz
        · rw [H.get_set, if_neg m1, H.get_push, if_neg m1]; exact gB
        · rw [H.get_set, if_neg m2, H.get_push, if_neg m2, hstep]; exact gf
        · rw [H.get_set, if_neg m3, H.get_push, if_neg m3]; exact gF
    · have hi10 : i = 10 := by omega
      subst hi10
      have hkf := kfF_is w0 10
      have hkk : kfF w0 10 = kfF w0 10 := rfl
      have hcutw : l = cutW → kfF w0 10 = 9 ∧ n = 1 ∧ (formsL.getD (kfF w0 10) ([], [])).2 = [] := by
        intro hl
        obtain ⟨r1, r2⟩ := hcut hl
        rw [r2] at hwlen
        have : kfF w0 10 = 9 := by rw [r1]; exact kfF_cut
        exact ⟨this, by simpa using hwlen.symm, by rw [this]; rfl⟩
      clear hkk
      generalize hkk : kfF w0 10 = kk at *
      obtain ⟨P, hP⟩ : ∃ P, (formsL.getD kk ([], [])).2 = P := ⟨_, rfl⟩
      obtain ⟨w, hw⟩ : ∃ w, (formsL.getD kk ([], [])).1 = w := ⟨_, rfl⟩
      have hfr : formRow (formsL.getD kk ([], [])) = [.s w, .s P] := by unfold formRow; rw [hP, hw]
      rw [hfr] at gf
      have hk10 : kk < 10 := by omega
      have hs := (forms_small kk hk10).2
      have hsuf := forms_suf kk hk10
      have hC := forms_C kk hk10
      have hnd := forms_nodup kk hk10
      have hle := forms_letters kk hk10
      rw [hP] at hs hsuf hC hnd hle hcutw
      have xs : ∀ g', gSuf [.s P, .s [67]] g' = some (.b (P.contains 67), g') := fun g' => by
        unfold gSuf; simp only; rw [if_pos (by omega), hsuf]
      have h1n : (1 : Int) ≤ (n : Int) := by omega
      have hlen1 : Go.IntKind.wrap .i64 ((P.length : Int) + 4) = ((P.length + 4 : Nat) : Int) := wrap_i64 (by omega) (by omega)
      have hzr1 : zRow.length = 12 := rfl
      have hzr2 : List.drop 12 zRow = [] := rfl
      have m1 : ¬ g.nx = g2.nx := by omega
      have m2 : ¬ h.nx = g2.nx := by omega
      have m3 : ¬ B = g2.nx := by omega
      have m4 : ¬ g.nx = h.nx := by omega
      have m5 : ¬ B = h.nx := by omega
      have m6 : ¬ g2.nx = h.nx := by omega
      have m7 : ¬ h.nx = g.nx := by omega
      cases hcon : P.contains 67 with
      | false =>
        rw [hcon] at xs
        by_cases hk0 : (kk : Int) = 0
        · simp only [↓STEP, SB, looked, behind, lookOk, AAct.kind, AOp.kind, wpRes, evRes, resV, AOp.ev, bin, binI, binS, shiftI, eqV, un, bound, boundO, fill, fillRows, aggOf, keyEq, findKey, putKey, V.cells, V.flat, byteOf, bytesOf, rdOf, H.wr, H.kOf, splice, isYl, ↓reduceIte, Nat.reduceEqDiff, Nat.reduceLeDiff, Nat.reduceLT, Nat.reduceAdd, Nat.reduceSub, Nat.reduceMul, Int.reduceLT, Int.reduceLE, Int.reduceEq, Int.reduceAdd, Int.reduceSub, Int.reduceMul, Int.reduceNeg, Int.reduceToNat, reduceCtorEq, e17, e16, e15, e4, e5, e6, e2, hlt, h1n, gf, hc0, xs, hk0, gB, gz, hzr1, hzr2, m1, m2, m3, m4, m5, m6, m7, hlen1]
          exact ⟨hk.set (Nat.le_refl _), .inl ⟨rfl, fun hl => by have := (hcutw hl).1; omega⟩⟩
        · have hww : w = w0 := by
            rcases hkf with hh | ⟨_, hh⟩
            · exact absurd (by omega) hk0
            · rw [← hw]; exact hh
          by_cases hcnt : ((n - 1 : Nat) : Int) = (P.length : Int)
          · simp only [↓STEP, SB, looked, behind, lookOk, AAct.kind, AOp.kind, wpRes, evRes, resV, AOp.ev, bin, binI, binS, shiftI, eqV, un, bound, boundO, fill, fillRows, aggOf, keyEq, findKey, putKey, V.cells, V.flat, byteOf, bytesOf, rdOf, H.wr, H.kOf, splice, isYl, ↓reduceIte, Nat.reduceEqDiff, Nat.reduceLeDiff, Nat.reduceLT, Nat.reduceAdd, Nat.reduceSub, Nat.reduceMul, Int.reduceLT, Int.reduceLE, Int.reduceEq, Int.reduceAdd, Int.reduceSub, Int.reduceMul, Int.reduceNeg, Int.reduceToNat, reduceCtorEq, e17, e16, e15, e4, e5, e6, e2, hlt, h1n, gf, hc0, xs, hk0, gB, gz, hzr1, hzr2, m1, m2, m3, m4, m5, m6, m7, hlen1, hcnt]
            refine wpA_loop_inv (RdLoop h l w P wr allw kk n B g.nx g2.nx) ?_ (m := P.length) ?_
            · rintro m t g3 ⟨i, row, s, rfl, hi, e59, e58, e6, e4, e10, e2, hb3, gz, gB, gf, gb, hrow, ok, hsk, hd0, h67, hpt, hk⟩
              have hrl : row.length = 12 := by obtain ⟨_, _, _, _, _, _, _, _, h, _⟩ := hrow; rw [h]; rfl
              have hr12 : List.take 12 row = row := List.take_of_length_le (by omega)
              have hrfl : row.all V.flat = true := by obtain ⟨_, _, _, _, _, _, _, _, h, _⟩ := hrow; rw [h]; rfl
              have heg : E g3 = true := hE h g3 hk.1 (fun i hi => hk.2 i (by omega)) he
              by_cases hlt : (i : Int) < (P.length : Int)
              · have hil : i < P.length := by omega
                obtain ⟨c, hc⟩ : ∃ c, P[i]? = some c := ⟨P[i], List.getElem?_eq_getElem hil⟩
                obtain ⟨wi, hwi⟩ : ∃ w', wr[i]? = some w' := ⟨wr[i]'(by omega), List.getElem?_eq_getElem (by omega)⟩
                have hai := hwords i wi hwi
                have hwil := hwl wi (List.mem_of_getElem? hwi)
                have hin : (i : Int) < ((n - 1 : Nat) : Int) := by omega
                have hci : c ∈ P := List.mem_of_getElem? hc
                have hcl := List.all_eq_true.1 hle c hci
                have htk : P.take (i + 1) = P.take i ++ [c] := by rw [List.take_add_one, hc]; rfl
                have hcnot : c ∉ P.take i := by
                  have hnd2 := hnd
                  rw [← List.take_append_drop (i + 1) P, htk] at hnd2
                  have := (List.nodup_append.1 hnd2).1
                  have := (List.nodup_append.1 this).2.2
                  intro hh; exact this c hh c (by simp) rfl
                have wi1 : Go.IntKind.wrap .i64 ((i : Int) + 1) = ((i + 1 : Nat) : Int) := wrap_i64 (by omega) (by omega)
                have hnot : l ≠ cutW := fun hl => by have := (hcutw hl).2.2; rw [this] at hil; simp at hil
                have hc67 : c ≠ 67 := fun hh => by rw [hh] at hci; have := List.contains_iff_mem.2 hci; rw [hcon] at this; cases this
                have hc67i : ¬ (c.toNat : Int) = 67 := fun hh => hc67 (UInt8.toNat_inj.1 (by show c.toNat = 67; omega))
                have hc6 : c = 70 ∨ c = 82 ∨ c = 73 ∨ c = 66 ∨ c = 69 ∨ c = 78 := by
                  unfold letters at hcl
                  simp only [List.contains_cons, Bool.or_eq_true, beq_iff_eq, List.contains_nil, Bool.false_eq_true, or_false] at hcl
                  rcases hcl with h | h | h | h | h | h | h
                  · exact .inl h
                  · exact .inr (.inl h)
                  · exact .inr (.inr (.inl h))
                  · exact .inr (.inr (.inr (.inl h)))
                  · exact .inr (.inr (.inr (.inr (.inl h))))
                  · exact .inr (.inr (.inr (.inr (.inr h))))
                  · exact absurd h hc67
                simp only [↓STEP, SB, looked, behind, lookOk, AAct.kind, AOp.kind, wpRes, evRes, resV, AOp.ev, bin, binI, binS, shiftI, eqV, un, bound, boundO, fill, fillRows, aggOf, keyEq, findKey, putKey, V.cells, V.flat, byteOf, bytesOf, rdOf, H.wr, H.kOf, splice, isYl, ↓reduceIte, Nat.reduceEqDiff, Nat.reduceLeDiff, Nat.reduceLT, Nat.reduceAdd, Nat.reduceSub, Nat.reduceMul, Int.reduceLT, Int.reduceLE, Int.reduceEq, Int.reduceAdd, Int.reduceSub, Int.reduceMul, Int.reduceNeg, Int.reduceToNat, reduceCtorEq, e59, e58, e6, e4, e10, e2, hlt, gf, gB, hc, hai, hin, hc67i]
                refine Runs.mono (c := .fn kr) («as» := [.p (some (g2.nx, 0, 0)), .i .u8 (c.toNat : Nat), .s wi] ++ []) (reads_runs hE hrA hrf hF hW hT gb hb3 (by omega) hrow ok heg hwil hc6 (fun h66 => hd0 (by rw [← h66]; exact hcnot))) ?_
                rintro v g4 ⟨hbut, hv⟩
                have hk4 := hk.but hbut (by omega)
                have gz4 : g4.get h.nx = some (.rows 12 [zRow] false) := by rw [hbut.2 _ (by omega) (by omega)]; exact gz
                have gB4 : g4.get B = some (.rows 1 allw false) := by rw [hbut.2 _ (by omega) (by omega)]; exact gB
                have gf4 : g4.get g.nx = some (.rows 2 [[.s w, .s P]] false) := by rw [hbut.2 _ (by omega) (by omega)]; exact gf
                rcases hv with rfl | ⟨rfl, s', row', gb4, hrow4, ok4, hsk4, hd4, hp4, ho4⟩
                · simp only [↓STEP, SB, looked, behind, lookOk, AAct.kind, AOp.kind, wpRes, evRes, resV, AOp.ev, bin, binI, binS, shiftI, eqV, un, bound, boundO, fill, fillRows, aggOf, keyEq, findKey, putKey, V.cells, V.flat, byteOf, bytesOf, rdOf, H.wr, H.kOf, splice, isYl, ↓reduceIte, Nat.reduceEqDiff, Nat.reduceLeDiff, Nat.reduceLT, Nat.reduceAdd, Nat.reduceSub, Nat.reduceMul, Int.reduceLT, Int.reduceLE, Int.reduceEq, Int.reduceAdd, Int.reduceSub, Int.reduceMul, Int.reduceNeg, Int.reduceToNat, reduceCtorEq, e2, v_pd, v_pd0, gz4, hzr1, hzr2]
                  exact ⟨Nat.ble_eq_true_of_le hbut.1, hk4.set (Nat.le_refl _), .inl ⟨rfl, hnot⟩⟩
                · simp only [↓STEP, SB, looked, behind, lookOk, AAct.kind, AOp.kind, wpRes, evRes, resV, AOp.ev, bin, binI, binS, shiftI, eqV, un, bound, boundO, fill, fillRows, aggOf, keyEq, findKey, putKey, V.cells, V.flat, byteOf, bytesOf, rdOf, H.wr, H.kOf, splice, isYl, ↓reduceIte, Nat.reduceEqDiff, Nat.reduceLeDiff, Nat.reduceLT, Nat.reduceAdd, Nat.reduceSub, Nat.reduceMul, Int.reduceLT, Int.reduceLE, Int.reduceEq, Int.reduceAdd, Int.reduceSub, Int.reduceMul, Int.reduceNeg, Int.reduceToNat, reduceCtorEq, e59, wi1]
                  refine ⟨Nat.ble_eq_true_of_le hbut.1, _, by omega, i + 1, row', s', rfl, by omega, by simp [v_pd, v_pd0, e59, wi1], by simp [v_pd, v_pd0, e58], by simp [v_pd, v_pd0, e6], by simp [v_pd, v_pd0, e4], by simp [v_pd, v_pd0, e10], by simp [v_pd, v_pd0, e2], Nat.lt_of_lt_of_le hb3 hbut.1, gz4, gB4, gf4, gb4, hrow4, ok4, by rw [hsk4, hsk], fun h66 => ?_, fun h67' => ?_, fun j c' w' hj hc' hw' => ?_, hk4⟩
                  · rw [htk] at h66
                    simp only [List.mem_append, List.mem_singleton, not_or] at h66
                    rw [hd4 (Ne.symm h66.2)]; exact hd0 h66.1
                  · rw [htk] at h67'
                    simp only [List.mem_append, List.mem_singleton] at h67'
                    rcases h67' with hh | hh
                    · exact h67 hh
                    · exact hc67 hh.symm
                  · by_cases hji : j = i
                    · subst hji
                      rw [hc] at hc'; rw [hwi] at hw'; cases hc'; cases hw'; exact hp4
                    · have hj' : j < i := by omega
                      rw [ho4 c' (by have := List.all_eq_true.1 hle c' (List.mem_of_getElem? hc'); simpa using this) (fun hh => hcnot (by rw [← hh]; exact List.mem_of_getElem? (by rw [List.getElem?_take_of_lt hj']; exact hc')))]
                      exact hpt j c' w' hj' hc' hw'
              · have hiP : i = P.length := by omega
                subst hiP
                rw [List.take_length] at h67 hd0
                have hl10 : lineF s = some (l ++ [10]) := by
                  rw [← hjoin, ← hww]
                  exact line_of hw hP (by omega) hk10 hsk (map_of (by omega) fun j c w' h1 h2 => hpt j c w' (List.getElem?_eq_some_iff.1 h1).1 h1 h2)
                simp only [↓STEP, SB, looked, behind, lookOk, AAct.kind, AOp.kind, wpRes, evRes, resV, AOp.ev, bin, binI, binS, shiftI, eqV, un, bound, boundO, fill, fillRows, aggOf, keyEq, findKey, putKey, V.cells, V.flat, byteOf, bytesOf, rdOf, H.wr, H.kOf, splice, isYl, ↓reduceIte, Nat.reduceEqDiff, Nat.reduceLeDiff, Nat.reduceLT, Nat.reduceAdd, Nat.reduceSub, Nat.reduceMul, Int.reduceLT, Int.reduceLE, Int.reduceEq, Int.reduceAdd, Int.reduceSub, Int.reduceMul, Int.reduceNeg, Int.reduceToNat, reduceCtorEq, e59, e58, e6, e4, e10, e2, hlt, gb, hrl, hr12, gz, hzr1, hzr2, hrfl]
                exact ⟨hk.set (Nat.le_refl _), .inr ⟨row, s, rfl, spRow_but hrow gz (by decide) (KeptBut.setb KeptBut.refl), ok, hl10⟩⟩
            · refine ⟨0, [.i .i64 (kk : Nat), .i .i64 0, .i .i64 0, .i .i64 0, .sl none 0 0 true, .sl none 0 0 true, .b false, .i .i64 0, .i .i64 0, .i .i64 0, .i .i64 0, .i .i64 0], ⟨(kk : Nat), 0, 0, 0, [], [], false, 0, 0, 0, 0, 0⟩, rfl, Nat.zero_le _, by simp [v_pd, v_pd0], by simp [v_pd, v_pd0], by simp [v_pd, v_pd0, e6], by simp [v_pd, v_pd0], by simp [v_pd, v_pd0], by simp [v_pd, v_pd0, e2], by simp [nx_push, nx_set], ?_, ?_, ?_, ?_, ⟨none, 0, 0, true, none, 0, 0, true, rfl, ⟨rfl, .inl rfl⟩, rfl⟩, ⟨⟨⟨by show _ ≤ ((kk : Nat) : Int); omega, by show ((kk : Nat) : Int) ≤ _; omega⟩, i64_0, i64_0, i64_0, fun c hc => by simp [Sp.cs] at hc; subst hc; exact i64_0⟩, by simp [totF], by simp⟩, rfl, fun _ => rfl, by simp, fun j c w' hj => absurd hj (Nat.not_lt_zero _), (Kept.push hk).set (by omega)⟩
              · rw [H.get_set, if_neg m2, H.get_push, if_neg m2]; exact gz
              · rw [H.get_set, if_neg m3, H.get_push, if_neg m3]; exact gB
              · rw [H.get_set, if_neg m1, H.get_push, if_neg m1]; exact gf
              · rw [H.get_set, if_pos rfl]
          · simp only [↓STEP, SB, looked, behind, lookOk, AAct.kind, AOp.kind, wpRes, evRes, resV, AOp.ev, bin, binI, binS, shiftI, eqV, un, bound, boundO, fill, fillRows, aggOf, keyEq, findKey, putKey, V.cells, V.flat, byteOf, bytesOf, rdOf, H.wr, H.kOf, splice, isYl, ↓reduceIte, Nat.reduceEqDiff, Nat.reduceLeDiff, Nat.reduceLT, Nat.reduceAdd, Nat.reduceSub, Nat.reduceMul, Int.reduceLT, Int.reduceLE, Int.reduceEq, Int.reduceAdd, Int.reduceSub, Int.reduceMul, Int.reduceNeg, Int.reduceToNat, reduceCtorEq, e17, e16, e15, e4, e5, e6, e2, hlt, h1n, gf, hc0, xs, hk0, gB, gz, hzr1, hzr2, m1, m2, m3, m4, m5, m6, m7, hlen1, hcnt]
            exact ⟨hk.set (Nat.le_refl _), .inl ⟨rfl, fun hl => by obtain ⟨_, r1, r2⟩ := hcutw hl; apply hcnt; rw [r1, r2]; rfl⟩⟩
      | true =>
        rw [hcon] at xs
        by_cases hk0 : (kk : Int) = 0
        · simp only [↓STEP, SB, looked, behind, lookOk, AAct.kind, AOp.kind, wpRes, evRes, resV, AOp.ev, bin, binI, binS, shiftI, eqV, un, bound, boundO, fill, fillRows, aggOf, keyEq, findKey, putKey, V.cells, V.flat, byteOf, bytesOf, rdOf, H.wr, H.kOf, splice, isYl, ↓reduceIte, Nat.reduceEqDiff, Nat.reduceLeDiff, Nat.reduceLT, Nat.reduceAdd, Nat.reduceSub, Nat.reduceMul, Int.reduceLT, Int.reduceLE, Int.reduceEq, Int.reduceAdd, Int.reduceSub, Int.reduceMul, Int.reduceNeg, Int.reduceToNat, reduceCtorEq, e17, e16, e15, e4, e5, e6, e2, hlt, h1n, gf, hc0, xs, hk0, gB, gz, hzr1, hzr2, m1, m2, m3, m4, m5, m6, m7, hlen1]
          exact ⟨hk.set (Nat.le_refl _), .inl ⟨rfl, fun hl => by have := (hcutw hl).1; omega⟩⟩
        · have hww : w = w0 := by
            rcases hkf with hh | ⟨_, hh⟩
            · exact absurd (by omega) hk0
            · rw [← hw]; exact hh
          by_cases hcnt : ((n - 1 : Nat) : Int) = ((P.length + 4 : Nat) : Int)
          · simp only [↓STEP, SB, looked, behind, lookOk, AAct.kind, AOp.kind, wpRes, evRes, resV, AOp.ev, bin, binI, binS, shiftI, eqV, un, bound, boundO, fill, fillRows, aggOf, keyEq, findKey, putKey, V.cells, V.flat, byteOf, bytesOf, rdOf, H.wr, H.kOf, splice, isYl, ↓reduceIte, Nat.reduceEqDiff, Nat.reduceLeDiff, Nat.reduceLT, Nat.reduceAdd, Nat.reduceSub, Nat.reduceMul, Int.reduceLT, Int.reduceLE, Int.reduceEq, Int.reduceAdd, Int.reduceSub, Int.reduceMul, Int.reduceNeg, Int.reduceToNat, reduceCtorEq, e17, e16, e15, e4, e5, e6, e2, hlt, h1n, gf, hc0, xs, hk0, gB, gz, hzr1, hzr2, m1, m2, m3, m4, m5, m6, m7, hlen1, hcnt]
            refine wpA_loop_inv (RdLoop h l w P wr allw kk n B g.nx g2.nx) ?_ (m := P.length) ?_
            · rintro m t g3 ⟨i, row, s, rfl, hi, e59, e58, e6, e4, e10, e2, hb3, gz, gB, gf, gb, hrow, ok, hsk, hd0, h67, hpt, hk⟩
              have hrl : row.length = 12 := by obtain ⟨_, _, _, _, _, _, _, _, h, _⟩ := hrow; rw [h]; rfl
              have hr12 : List.take 12 row = row := List.take_of_length_le (by omega)
              have hrfl : row.all V.flat = true := by obtain ⟨_, _, _, _, _, _, _, _, h, _⟩ := hrow; rw [h]; rfl
              have heg : E g3 = true := hE h g3 hk.1 (fun i hi => hk.2 i (by omega)) he
              by_cases hlt : (i : Int) < (P.length : Int)
              · have hil : i < P.length := by omega
                obtain ⟨c, hc⟩ : ∃ c, P[i]? = some c := ⟨P[i], List.getElem?_eq_getElem hil⟩
                obtain ⟨wi, hwi⟩ : ∃ w', wr[i]? = some w' := ⟨wr[i]'(by omega), List.getElem?_eq_getElem (by omega)⟩
                have hai := hwords i wi hwi
                have hwil := hwl wi (List.mem_of_getElem? hwi)
                have hin : (i : Int) < ((n - 1 : Nat) : Int) := by omega
                have hci : c ∈ P := List.mem_of_getElem? hc
                have hcl := List.all_eq_true.1 hle c hci
                have htk : P.take (i + 1) = P.take i ++ [c] := by rw [List.take_add_one, hc]; rfl
                have hcnot : c ∉ P.take i := by
                  have hnd2 := hnd
                  rw [← List.take_append_drop (i + 1) P, htk] at hnd2
                  have := (List.nodup_append.1 hnd2).1
                  have := (List.nodup_append.1 this).2.2
                  intro hh; exact this c hh c (by simp) rfl
                have wi1 : Go.IntKind.wrap .i64 ((i : Int) + 1) = ((i + 1 : Nat) : Int) := wrap_i64 (by omega) (by omega)
                have hnot : l ≠ cutW := fun hl => by have := (hcutw hl).2.2; rw [this] at hil; simp at hil
                by_cases hc67 : c = 67
                · subst hc67
                  have hlast := hC i hil (by rw [List.getD_eq_getElem?_getD, hc]; rfl)
                  have hwrl : wr.length = i + 5 := by omega
                  have hle5 : ((i : Nat) : Int) ≤ ((n - 1 : Nat) : Int) := by omega
                  have t67 : (((67 : UInt8).toNat : Nat) : Int) = 67 := rfl
                  simp only [↓STEP, SB, looked, behind, lookOk, AAct.kind, AOp.kind, wpRes, evRes, resV, AOp.ev, bin, binI, binS, shiftI, eqV, un, bound, boundO, fill, fillRows, aggOf, keyEq, findKey, putKey, V.cells, V.flat, byteOf, bytesOf, rdOf, H.wr, H.kOf, splice, isYl, ↓reduceIte, Nat.reduceEqDiff, Nat.reduceLeDiff, Nat.reduceLT, Nat.reduceAdd, Nat.reduceSub, Nat.reduceMul, Int.reduceLT, Int.reduceLE, Int.reduceEq, Int.reduceAdd, Int.reduceSub, Int.reduceMul, Int.reduceNeg, Int.reduceToNat, reduceCtorEq, e59, e58, e6, e4, e10, e2, hlt, gf, gB, hc, hle5, t67]
                  obtain ⟨v0, hv0⟩ : ∃ w', wr[i + 0]? = some w' := ⟨wr[i + 0]'(by omega), List.getElem?_eq_getElem (by omega)⟩
                  obtain ⟨v1, hv1⟩ : ∃ w', wr[i + 1]? = some w' := ⟨wr[i + 1]'(by omega), List.getElem?_eq_getElem (by omega)⟩
                  obtain ⟨v2, hv2⟩ : ∃ w', wr[i + 2]? = some w' := ⟨wr[i + 2]'(by omega), List.getElem?_eq_getElem (by omega)⟩
                  obtain ⟨v3, hv3⟩ : ∃ w', wr[i + 3]? = some w' := ⟨wr[i + 3]'(by omega), List.getElem?_eq_getElem (by omega)⟩
                  obtain ⟨v4, hv4⟩ : ∃ w', wr[i + 4]? = some w' := ⟨wr[i + 4]'(by omega), List.getElem?_eq_getElem (by omega)⟩
                  have hn5 : n - 1 - i = 5 := by omega
                  have a0 : allw[1 + i]? = some [.s v0] := hwords i v0 hv0
                  have a1 : allw[1 + i + 1]? = some [.s v1] := by rw [Nat.add_assoc]; exact hwords (i + 1) v1 hv1
                  have a2 : allw[1 + i + 2]? = some [.s v2] := by rw [Nat.add_assoc]; exact hwords (i + 2) v2 hv2
                  have a3 : allw[1 + i + 3]? = some [.s v3] := by rw [Nat.add_assoc]; exact hwords (i + 3) v3 hv3
                  have a4 : allw[1 + i + 4]? = some [.s v4] := by rw [Nat.add_assoc]; exact hwords (i + 4) v4 hv4
                  have hdrop : wr.drop i = [v0, v1, v2, v3, v4] := by
                    apply List.ext_getElem?
                    intro j
                    rw [List.getElem?_drop]
                    rcases j with _ | _ | _ | _ | _ | j
                    · simpa using hv0
                    · simpa using hv1
                    · simpa using hv2
                    · simpa using hv3
                    · simpa using hv4
                    · rw [List.getElem?_eq_none (by omega)]; rfl
                  refine Runs.mono (c := .fn kse) («as» := [.p (some (g2.nx, 0, 0)), .sl (some (B, 1 + i)) (n - 1 - i) (n - 1 - i) true] ++ []) (settings_runs hE hsA hsf hW gb hb3 (by omega) hrow ok heg gB (by omega) hn5 a0 a1 a2 a3 a4 (hwl _ (List.mem_of_getElem? hv0)) (hwl _ (List.mem_of_getElem? hv1)) (hwl _ (List.mem_of_getElem? hv2)) (hwl _ (List.mem_of_getElem? hv3)) (hwl _ (List.mem_of_getElem? hv4))) ?_
                  rintro v g4 ⟨hbut, hv⟩
                  have hk4 := hk.but hbut (by omega)
                  have gz4 : g4.get h.nx = some (.rows 12 [zRow] false) := by rw [hbut.2 _ (by omega) (by omega)]; exact gz
                  rcases hv with rfl | ⟨rfl, s', row', gb4, hrow4, ok4, hsk4, hd4, hp4, ho4⟩
                  · simp only [↓STEP, SB, looked, behind, lookOk, AAct.kind, AOp.kind, wpRes, evRes, resV, AOp.ev, bin, binI, binS, shiftI, eqV, un, bound, boundO, fill, fillRows, aggOf, keyEq, findKey, putKey, V.cells, V.flat, byteOf, bytesOf, rdOf, H.wr, H.kOf, splice, isYl, ↓reduceIte, Nat.reduceEqDiff, Nat.reduceLeDiff, Nat.reduceLT, Nat.reduceAdd, Nat.reduceSub, Nat.reduceMul, Int.reduceLT, Int.reduceLE, Int.reduceEq, Int.reduceAdd, Int.reduceSub, Int.reduceMul, Int.reduceNeg, Int.reduceToNat, reduceCtorEq, e2, v_pd, v_pd0, gz4, hzr1, hzr2]
                    exact ⟨hk4.set (Nat.le_refl _), .inl ⟨rfl, hnot⟩⟩
                  · have hrl4 : row'.length = 12 := by obtain ⟨_, _, _, _, _, _, _, _, h, _⟩ := hrow4; rw [h]; rfl
                    have hr124 : List.take 12 row' = row' := List.take_of_length_le (by omega)
                    have hrfl4 : row'.all V.flat = true := by obtain ⟨_, _, _, _, _, _, _, _, h, _⟩ := hrow4; rw [h]; rfl
                    have hl10 : lineF s' = some (l ++ [10]) := by
                      have e5 : w0 :: wr = w0 :: (wr.take i ++ [v0, v1, v2, v3, v4]) := by rw [← hdrop, List.take_append_drop]
                      rw [← hjoin, e5, ← joinS_join w0 (wr.take i) [v0, v1, v2, v3, v4] [32] (by simp), ← hww]
                      refine line_of hw hP (by omega) hk10 (by rw [hsk4, hsk]) (map_of (by rw [List.length_append, List.length_take, List.length_singleton]; omega) fun j c w' h1 h2 => ?_)
                      by_cases hj : j < i
                      · rw [List.getElem?_append_left (by rw [List.length_take]; omega), List.getElem?_take_of_lt hj] at h2
                        rw [ho4 c (by have := List.all_eq_true.1 hle c (List.mem_of_getElem? h1); simpa using this) (fun hh => hcnot (by rw [← hh]; exact List.mem_of_getElem? (by rw [List.getElem?_take_of_lt hj]; exact h1)))]
                        exact hpt j c w' hj h1 h2
                      · have hji : j = i := by have := (List.getElem?_eq_some_iff.1 h1).1; omega
                        subst hji
                        rw [List.getElem?_append_right (by rw [List.length_take]; omega), List.length_take, Nat.min_eq_left (by omega), Nat.sub_self] at h2
                        rw [hc] at h1; cases h1; cases h2; exact hp4
                    simp only [↓STEP, SB, looked, behind, lookOk, AAct.kind, AOp.kind, wpRes, evRes, resV, AOp.ev, bin, binI, binS, shiftI, eqV, un, bound, boundO, fill, fillRows, aggOf, keyEq, findKey, putKey, V.cells, V.flat, byteOf, bytesOf, rdOf, H.wr, H.kOf, splice, isYl, ↓reduceIte, Nat.reduceEqDiff, Nat.reduceLeDiff, Nat.reduceLT, Nat.reduceAdd, Nat.reduceSub, Nat.reduceMul, Int.reduceLT, Int.reduceLE, Int.reduceEq, Int.reduceAdd, Int.reduceSub, Int.reduceMul, Int.reduceNeg, Int.reduceToNat, reduceCtorEq, e2, e10, v_pd, v_pd0, gb4, hrl4, hr124, gz4, hzr1, hzr2, hrfl4]
                    exact ⟨hk4.set (Nat.le_refl _), .inr ⟨row', s', rfl, spRow_but hrow4 gz4 (by decide) (KeptBut.setb KeptBut.refl), ok4, hl10⟩⟩
                · skip
                  have hc67i : ¬ (c.toNat : Int) = 67 := fun hh => hc67 (UInt8.toNat_inj.1 (by show c.toNat = 67; omega))
                  have hc6 : c = 70 ∨ c = 82 ∨ c = 73 ∨ c = 66 ∨ c = 69 ∨ c = 78 := by
                    unfold letters at hcl
                    simp only [List.contains_cons, Bool.or_eq_true, beq_iff_eq, List.contains_nil, Bool.false_eq_true, or_false] at hcl
                    rcases hcl with h | h | h | h | h | h | h
                    · exact .inl h
                    · exact .inr (.inl h)
                    · exact .inr (.inr (.inl h))
                    · exact .inr (.inr (.inr (.inl h)))
                    · exact .inr (.inr (.inr (.inr (.inl h))))
                    · exact .inr (.inr (.inr (.inr (.inr h))))
                    · exact absurd h hc67
                  simp only [↓STEP, SB, looked, behind, lookOk, AAct.kind, AOp.kind, wpRes, evRes, resV, AOp.ev, bin, binI, binS, shiftI, eqV, un, bound, boundO, fill, fillRows, aggOf, keyEq, findKey, putKey, V.cells, V.flat, byteOf, bytesOf, rdOf, H.wr, H.kOf, splice, isYl, ↓reduceIte, Nat.reduceEqDiff, Nat.reduceLeDiff, Nat.reduceLT, Nat.reduceAdd, Nat.reduceSub, Nat.reduceMul, Int.reduceLT, Int.reduceLE, Int.reduceEq, Int.reduceAdd, Int.reduceSub, Int.reduceMul, Int.reduceNeg, Int.reduceToNat, reduceCtorEq, e59, e58, e6, e4, e10, e2, hlt, gf, gB, hc, hai, hin, hc67i]
                  refine Runs.mono (c := .fn kr) («as» := [.p (some (g2.nx, 0, 0)), .i .u8 (c.toNat : Nat), .s wi] ++ []) (reads_runs hE hrA hrf hF hW hT gb hb3 (by omega) hrow ok heg hwil hc6 (fun h66 => hd0 (by rw [← h66]; exact hcnot))) ?_
                  rintro v g4 ⟨hbut, hv⟩
                  have hk4 := hk.but hbut (by omega)
                  have gz4 : g4.get h.nx = some (.rows 12 [zRow] false) := by rw [hbut.2 _ (by omega) (by omega)]; exact gz
                  have gB4 : g4.get B = some (.rows 1 allw false) := by rw [hbut.2 _ (by omega) (by omega)]; exact gB
                  have gf4 : g4.get g.nx = some (.rows 2 [[.s w, .s P]] false) := by rw [hbut.2 _ (by omega) (by omega)]; exact gf
                  rcases hv with rfl | ⟨rfl, s', row', gb4, hrow4, ok4, hsk4, hd4, hp4, ho4⟩
                  · simp only [↓STEP, SB, looked, behind, lookOk, AAct.kind, AOp.kind, wpRes, evRes, resV, AOp.ev, bin, binI, binS, shiftI, eqV, un, bound, boundO, fill, fillRows, aggOf, keyEq, findKey, putKey, V.cells, V.flat, byteOf, bytesOf, rdOf, H.wr, H.kOf, splice, isYl, ↓reduceIte, Nat.reduceEqDiff, Nat.reduceLeDiff, Nat.reduceLT, Nat.reduceAdd, Nat.reduceSub, Nat.reduceMul, Int.reduceLT, Int.reduceLE, Int.reduceEq, Int.reduceAdd, Int.reduceSub, Int.reduceMul, Int.reduceNeg, Int.reduceToNat, reduceCtorEq, e2, v_pd, v_pd0, gz4, hzr1, hzr2]
                    exact ⟨Nat.ble_eq_true_of_le hbut.1, hk4.set (Nat.le_refl _), .inl ⟨rfl, hnot⟩⟩
                  · simp only [↓STEP, SB, looked, behind, lookOk, AAct.kind, AOp.kind, wpRes, evRes, resV, AOp.ev, bin, binI, binS, shiftI, eqV, un, bound, boundO, fill, fillRows, aggOf, keyEq, findKey, putKey, V.cells, V.flat, byteOf, bytesOf, rdOf, H.wr, H.kOf, splice, isYl, ↓reduceIte, Nat.reduceEqDiff, Nat.reduceLeDiff, Nat.reduceLT, Nat.reduceAdd, Nat.reduceSub, Nat.reduceMul, Int.reduceLT, Int.reduceLE, Int.reduceEq, Int.reduceAdd, Int.reduceSub, Int.reduceMul, Int.reduceNeg, Int.reduceToNat, reduceCtorEq, e59, wi1]
                    refine ⟨Nat.ble_eq_true_of_le hbut.1, _, by omega, i + 1, row', s', rfl, by omega, by simp [v_pd, v_pd0, e59, wi1], by simp [v_pd, v_pd0, e58], by simp [v_pd, v_pd0, e6], by simp [v_pd, v_pd0, e4], by simp [v_pd, v_pd0, e10], by simp [v_pd, v_pd0, e2], Nat.lt_of_lt_of_le hb3 hbut.1, gz4, gB4, gf4, gb4, hrow4, ok4, by rw [hsk4, hsk], fun h66 => ?_, fun h67' => ?_, fun j c' w' hj hc' hw' => ?_, hk4⟩
                    · rw [htk] at h66
                      simp only [List.mem_append, List.mem_singleton, not_or] at h66
                      rw [hd4 (Ne.symm h66.2)]; exact hd0 h66.1
                    · rw [htk] at h67'
                      simp only [List.mem_append, List.mem_singleton] at h67'
                      rcases h67' with hh | hh
                      · exact h67 hh
                      · exact hc67 hh.symm
                    · by_cases hji : j = i
                      · subst hji
                        rw [hc] at hc'; rw [hwi] at hw'; cases hc'; cases hw'; exact hp4
                      · have hj' : j < i := by omega
                        rw [ho4 c' (by have := List.all_eq_true.1 hle c' (List.mem_of_getElem? hc'); simpa using this) (fun hh => hcnot (by rw [← hh]; exact List.mem_of_getElem? (by rw [List.getElem?_take_of_lt hj']; exact hc')))]
                        exact hpt j c' w' hj' hc' hw'
              · have hiP : i = P.length := by omega
                rw [hiP, List.take_length] at h67
                exact absurd (List.contains_iff_mem.1 hcon) h67
            · refine ⟨0, [.i .i64 (kk : Nat), .i .i64 0, .i .i64 0, .i .i64 0, .sl none 0 0 true, .sl none 0 0 true, .b false, .i .i64 0, .i .i64 0, .i .i64 0, .i .i64 0, .i .i64 0], ⟨(kk : Nat), 0, 0, 0, [], [], false, 0, 0, 0, 0, 0⟩, rfl, Nat.zero_le _, by simp [v_pd, v_pd0], by simp [v_pd, v_pd0], by simp [v_pd, v_pd0, e6], by simp [v_pd, v_pd0], by simp [v_pd, v_pd0], by simp [v_pd, v_pd0, e2], by simp [nx_push, nx_set], ?_, ?_, ?_, ?_, ⟨none, 0, 0, true, none, 0, 0, true, rfl, ⟨rfl, .inl rfl⟩, rfl⟩, ⟨⟨⟨by show _ ≤ ((kk : Nat) : Int); omega, by show ((kk : Nat) : Int) ≤ _; omega⟩, i64_0, i64_0, i64_0, fun c hc => by simp [Sp.cs] at hc; subst hc; exact i64_0⟩, by simp [totF], by simp⟩, rfl, fun _ => rfl, by simp, fun j c w' hj => absurd hj (Nat.not_lt_zero _), (Kept.push hk).set (by omega)⟩
              · rw [H.get_set, if_neg m2, H.get_push, if_neg m2]; exact gz
              · rw [H.get_set, if_neg m3, H.get_push, if_neg m3]; exact gB
              · rw [H.get_set, if_neg m1, H.get_push, if_neg m1]; exact gf
              · rw [H.get_set, if_pos rfl]
          · simp only [↓STEP, SB, looked, behind, lookOk, AAct.kind, AOp.kind, wpRes, evRes, resV, AOp.ev, bin, binI, binS, shiftI, eqV, un, bound, boundO, fill, fillRows, aggOf, keyEq, findKey, putKey, V.cells, V.flat, byteOf, bytesOf, rdOf, H.wr, H.kOf, splice, isYl, ↓reduceIte, Nat.reduceEqDiff, Nat.reduceLeDiff, Nat.reduceLT, Nat.reduceAdd, Nat.reduceSub, Nat.reduceMul, Int.reduceLT, Int.reduceLE, Int.reduceEq, Int.reduceAdd, Int.reduceSub, Int.reduceMul, Int.reduceNeg, Int.reduceToNat, reduceCtorEq, e17, e16, e15, e4, e5, e6, e2, hlt, h1n, gf, hc0, xs, hk0, gB, gz, hzr1, hzr2, m1, m2, m3, m4, m5, m6, m7, hlen1, hcnt]
            exact ⟨hk.set (Nat.le_refl _), .inl ⟨rfl, fun hl => by have := (hcutw hl).2.2; rw [this] at hcon; cases hcon⟩⟩
  · exact ⟨0, rfl, Nat.zero_le _, by simp [v_pd, v_pd0], by simp [v_pd, v_pd0], by simp [v_pd, v_pd0], by simp [v_pd, v_pd0], by simp [v_pd, v_pd0]; rfl, by simp [v_pd, v_pd0], by simp [v_pd, v_pd0], by omega, by omega, by omega, by omega, hz1, hB1', hfb, hgF, hkh1⟩
end Am
