/- Script texts: many cuts; lines told to anyone. -/
import Derived.Test.YtjcchmmmbegamaaDoorScrU
import Derived.Test.YtjcchmmmbegamaaDoorAmRfn
namespace Am
set_option linter.unusedVariables false
set_option linter.unusedSimpArgs false
set_option maxRecDepth 20000
set_option maxHeartbeats 8000000
variable {pr : Prog}

def cutsN : Nat → List UInt8
  | 0 => []
  | n + 1 => 99 :: 117 :: 116 :: 10 :: cutsN n
theorem cutsN_len : ∀ n, (cutsN n).length = 4 * n
  | 0 => rfl
  | n + 1 => by rw [cutsN]; simp [cutsN_len n]; omega
theorem cutsN_snoc : ∀ n, cutsN n ++ [99, 117, 116, 10] = cutsN (n + 1)
  | 0 => rfl
  | n + 1 => by rw [cutsN, cutsN, ← cutsN_snoc n]; rfl
theorem first_line {l r X : List UInt8} (h : l ++ (10 :: r) = 99 :: 117 :: 116 :: 10 :: X) (hn : 10 ∉ l) : l = cutW ∧ r = X := by
  rcases l with _ | ⟨a, l⟩
  · simp at h
  · simp only [List.cons_append, List.cons.injEq] at h
    obtain ⟨rfl, h⟩ := h
    rcases l with _ | ⟨a, l⟩
    · simp at h
    · simp only [List.cons_append, List.cons.injEq] at h
      obtain ⟨rfl, h⟩ := h
      rcases l with _ | ⟨a, l⟩
      · simp at h
      · simp only [List.cons_append, List.cons.injEq] at h
        obtain ⟨rfl, h⟩ := h
        rcases l with _ | ⟨a, l⟩
        · simp only [List.nil_append, List.cons.injEq, true_and] at h
          exact ⟨rfl, h⟩
        · simp only [List.cons_append, List.cons.injEq] at h
          obtain ⟨rfl, h⟩ := h
          simp at hn
theorem told_cuts {ss : List Sp} {t : List UInt8} (h : Told ss t) : ∀ n r, cutsN n = t ++ r → ss.length ≤ n ∧ r = cutsN (n - ss.length) := by
  induction h with
  | nil => intro n r h; exact ⟨Nat.zero_le _, h.symm⟩
  | snoc ss t s l h ok hl hn ih =>
    intro n r hr
    rw [List.append_assoc, List.append_assoc] at hr
    obtain ⟨h1, h2⟩ := ih n _ hr
    rw [List.length_append, List.length_singleton]
    cases hk : n - ss.length with
    | zero => rw [hk, cutsN] at h2; simp at h2
    | succ k =>
      rw [hk, cutsN] at h2
      obtain ⟨h3, h4⟩ := first_line h2 hn
      exact ⟨by omega, by rw [show n - (ss.length + 1) = k by omega]; exact h4⟩
theorem cuts_good (k : Nat) : ¬ badT (cutsN (k + 1)) := by
  have hf : fIdx (cutsN (k + 1)) 10 = 3 := by
    unfold fIdx
    rw [cutsN]
    simp [List.findIdx?_cons]
  unfold badT cutB
  rw [hf]
  simp [cutsN, cutW]
theorem told_bad {ss : List Sp} {t r : List UInt8} {n : Nat} (h : Told ss t) (he : cutsN n = t ++ r) (hr : r ≠ []) (hb : badT r) : False := by
  obtain ⟨h1, h2⟩ := told_cuts h n r he
  cases hk : n - ss.length with
  | zero => rw [hk, cutsN] at h2; exact hr h2
  | succ k => rw [hk] at h2; rw [h2] at hb; exact cuts_good k hb
theorem read_cuts1 {h g : H} {v : V} (o : ReadTo h g (cutsN 4097) v) : Kept h g ∧ ∃ p n ex, v = .tup [.sl p n n ex, .i .i64 4096, .i .i64 2] := by
  obtain ⟨hk, p, n, ex, k, er, rfl, hc⟩ := o
  rcases hc with ⟨rfl, rfl, ss, rfl, ht, hl, _⟩ | ⟨rfl, rfl, _⟩ | ⟨rfl, ss, t, r, rfl, hl, ht, he, hr, hb⟩
  · exfalso
    obtain ⟨h1, h2⟩ := told_cuts ht 4097 [] (by simp)
    have := congrArg List.length h2
    rw [cutsN_len] at this
    simp at this
    omega
  · exact ⟨hk, p, n, ex, rfl⟩
  · exact (told_bad ht he hr hb).elim
theorem read_cuts2 {h g : H} {v : V} (o : ReadTo h g (cutsN 4096) v) : Kept h g ∧ ∃ p ex, v = .tup [.sl p 4096 4096 ex, .i .i64 0, .i .i64 0] := by
  obtain ⟨hk, p, n, ex, k, er, rfl, hc⟩ := o
  rcases hc with ⟨rfl, rfl, ss, rfl, ht, hl, _⟩ | ⟨rfl, rfl, ss, t, r, ht, hl, he, hr⟩ | ⟨rfl, ss, t, r, rfl, hl, ht, he, hr, hb⟩
  · obtain ⟨h1, h2⟩ := told_cuts ht 4096 [] (by simp)
    have := congrArg List.length h2
    rw [cutsN_len] at this
    simp at this
    have : ss.length = 4096 := by omega
    rw [this]
    exact ⟨hk, p, ex, rfl⟩
  · exfalso
    obtain ⟨h1, h2⟩ := told_cuts ht 4096 r he
    rw [hl] at h2
    exact hr h2
  · exact (told_bad ht he hr hb).elim
theorem over_gen {E : H → Bool} (hE : Eok E) {k kC kl kS kg ke kc ki kfo kH kse kr kF kw kT : Nat} (hA : pr.ext k = none) (hfn : pr.fn k = some (c_script_over kC kl)) (hC : pr.ext kC = some gCutS)
    (hlA : pr.ext kl = none) (hlf : pr.fn kl = some (c_script_line kS kfo kH kse kr)) (hSA : pr.ext kS = none) (hSf : pr.fn kS = some (c_strings_Split kg)) (hgA : pr.ext kg = none) (hgf : pr.fn kg = some (c_strings_genSplit ke kc ki)) (hc : pr.ext kc = some gCnt) (hi : pr.ext ki = some gIx1)
    (hfo : pr.ext kfo = none) (hff : pr.fn kfo = some c_script_forms) (hH : pr.ext kH = some gSuf) (hsA : pr.ext kse = none) (hsf : pr.fn kse = some (c_script_settings kw)) (hrA : pr.ext kr = none) (hrf : pr.fn kr = some (c_script_reads kF kw kT)) (hF : pr.ext kF = some gRF) (hW : pr.ext kw = some (gWhole E)) (hT : pr.ext kT = some gRT)
    {c : Cal} {caps : List V} {I J : Nat → H → Prop} (hIk : ∀ i g g', I i g → Kept g g' → I i g') (hIE : ∀ i g, I i g → E g = true ∧ 4096 ≤ g.nx)
    (htell : ∀ i g row, I i g → row.length = 12 → row.all V.flat = true → Runs pr c ([.i .i64 (i : Nat), .agg row] ++ caps) g (fun v g' => (v = .b true ∧ I (i + 1) g') ∨ (v = .b false ∧ J i g')))
    {g : H} {s : List UInt8} (hs : s.length < 1000000) (h0 : I 0 g) :
    Runs pr (.fn k) [.s s, .f c caps] g (fun v g' => ∃ ss t r at', v = .i .i64 at' ∧ Told ss t ∧ s = t ++ r ∧ ((r = [] ∧ I ss.length g') ∨ (r ≠ [] ∧ badT r ∧ I ss.length g') ∨ ∃ i, ss.length = i + 1 ∧ J i g')) := by
  refine runs_of_wpF hA hfn ?_
  unfold wpF c_script_over
  refine ⟨by simp, ?_⟩
  have hc0 := @wpCall_ext pr kC gCutS hC
  simp only [↓STEP, SB, looked, behind, lookOk, AAct.kind, AOp.kind, wpRes, evRes, resV, AOp.ev, bin, binI, binS, shiftI, eqV, un, bound, boundO, fill, fillRows, aggOf, keyEq, findKey, putKey, V.cells, V.flat, byteOf, bytesOf, rdOf, H.wr, H.kOf, splice, isYl, ↓reduceIte, Nat.reduceEqDiff, Nat.reduceLeDiff, Nat.reduceLT, Nat.reduceAdd, Nat.reduceSub, Nat.reduceMul, Int.reduceLT, Int.reduceLE, Int.reduceEq, Int.reduceAdd, Int.reduceSub, Int.reduceMul, Int.reduceNeg, Int.reduceToNat, reduceCtorEq]
  refine wpA_loop_inv (fun m t g => ∃ ss tt r, m = r.length ∧ t.v 0 = .s r ∧ t.v 5 = .i .i64 (ss.length : Nat) ∧ t.v 1 = .f c caps ∧ Told ss tt ∧ I ss.length g ∧ s = tt ++ r) ?_ (m := s.length) ?_
  · rintro m t g ⟨ss, tt, r, rfl, e0, e5, e1, ht, hI, rfl⟩
    obtain ⟨heg, hg4⟩ := hIE _ _ hI
    rw [List.length_append] at hs
    have hssl : ss.length ≤ tt.length := by rw [← told_count ht]; exact List.count_le_length
    by_cases hr : r = []
    · subst hr
      simp only [↓STEP, SB, looked, behind, lookOk, AAct.kind, AOp.kind, wpRes, evRes, resV, AOp.ev, bin, binI, binS, shiftI, eqV, un, bound, boundO, fill, fillRows, aggOf, keyEq, findKey, putKey, V.cells, V.flat, byteOf, bytesOf, rdOf, H.wr, H.kOf, splice, isYl, ↓reduceIte, Nat.reduceEqDiff, Nat.reduceLeDiff, Nat.reduceLT, Nat.reduceAdd, Nat.reduceSub, Nat.reduceMul, Int.reduceLT, Int.reduceLE, Int.reduceEq, Int.reduceAdd, Int.reduceSub, Int.reduceMul, Int.reduceNeg, Int.reduceToNat, reduceCtorEq, e0, e5, e1]
      exact ⟨ss, tt, [], -1, rfl, ht, by simp, .inl ⟨rfl, hI⟩⟩
    · have x0 : gCutS [.s r, .s [10]] g = some (.tup [.s (cutB 10 r).1, .s (cutB 10 r).2.1, .b (cutB 10 r).2.2], g) := if_pos (by omega)
      have hcl := cutB_len (b := 10) (l := r)
      have hbad : badT r = ((cutB 10 r).1 ≠ cutW ∨ (cutB 10 r).2.2 = false) := rfl
      have hct : ∀ x y, cutB 10 r = (x, y, true) → r = x ++ 10 :: y ∧ 10 ∉ x := fun x y => cutB_true
      generalize cutB 10 r = cc at *
      obtain ⟨l, rest, wh⟩ := cc
      simp only at x0 hcl hbad
      simp only [↓STEP, SB, looked, behind, lookOk, AAct.kind, AOp.kind, wpRes, evRes, resV, AOp.ev, bin, binI, binS, shiftI, eqV, un, bound, boundO, fill, fillRows, aggOf, keyEq, findKey, putKey, V.cells, V.flat, byteOf, bytesOf, rdOf, H.wr, H.kOf, splice, isYl, ↓reduceIte, Nat.reduceEqDiff, Nat.reduceLeDiff, Nat.reduceLT, Nat.reduceAdd, Nat.reduceSub, Nat.reduceMul, Int.reduceLT, Int.reduceLE, Int.reduceEq, Int.reduceAdd, Int.reduceSub, Int.reduceMul, Int.reduceNeg, Int.reduceToNat, reduceCtorEq, e0, e5, e1, hr, hc0, x0]
      refine Runs.mono (c := .fn kl) («as» := [.s l] ++ []) (line_runs hE hlA hlf hSA hSf hgA hgf hc hi hfo hff hH hsA hsf hrA hrf hF hW hT (l := l) (by omega) heg hg4) ?_
      rintro v g2 ⟨hk2, hv⟩
      have hk3 : ∀ Y X, Kept g ((g2.push Y).set g2.nx X) := fun Y X => (Kept.push hk2).set hk2.1
      have hzl : zRow.length = 12 := rfl
      have hzf : zRow.all V.flat = true := rfl
      rcases hv with ⟨rfl, hlc⟩ | ⟨row, s', rfl, hrow, ok', hl10⟩
      · cases wh with
        | true =>
          simp only [↓STEP, SB, looked, behind, lookOk, AAct.kind, AOp.kind, wpRes, evRes, resV, AOp.ev, bin, binI, binS, shiftI, eqV, un, bound, boundO, fill, fillRows, aggOf, keyEq, findKey, putKey, V.cells, V.flat, byteOf, bytesOf, rdOf, H.wr, H.kOf, splice, isYl, ↓reduceIte, Nat.reduceEqDiff, Nat.reduceLeDiff, Nat.reduceLT, Nat.reduceAdd, Nat.reduceSub, Nat.reduceMul, Int.reduceLT, Int.reduceLE, Int.reduceEq, Int.reduceAdd, Int.reduceSub, Int.reduceMul, Int.reduceNeg, Int.reduceToNat, reduceCtorEq, hzl, hzf, e5]
          exact ⟨ss, tt, r, _, rfl, ht, rfl, .inr (.inl ⟨hr, by rw [hbad]; exact .inl hlc, hIk _ _ _ hI (hk3 _ _)⟩)⟩
        | false =>
          simp only [↓STEP, SB, looked, behind, lookOk, AAct.kind, AOp.kind, wpRes, evRes, resV, AOp.ev, bin, binI, binS, shiftI, eqV, un, bound, boundO, fill, fillRows, aggOf, keyEq, findKey, putKey, V.cells, V.flat, byteOf, bytesOf, rdOf, H.wr, H.kOf, splice, isYl, ↓reduceIte, Nat.reduceEqDiff, Nat.reduceLeDiff, Nat.reduceLT, Nat.reduceAdd, Nat.reduceSub, Nat.reduceMul, Int.reduceLT, Int.reduceLE, Int.reduceEq, Int.reduceAdd, Int.reduceSub, Int.reduceMul, Int.reduceNeg, Int.reduceToNat, reduceCtorEq, hzl, hzf, e5]
          exact ⟨ss, tt, r, _, rfl, ht, rfl, .inr (.inl ⟨hr, by rw [hbad]; exact .inl hlc, hIk _ _ _ hI (hk3 _ _)⟩)⟩
      · have hrl : row.length = 12 := by obtain ⟨_, _, _, _, _, _, _, _, h, _⟩ := hrow; rw [h]; rfl
        have hr12 : List.take 12 row = row := List.take_of_length_le (by omega)
        have hrfl : row.all V.flat = true := by obtain ⟨_, _, _, _, _, _, _, _, h, _⟩ := hrow; rw [h]; rfl
        cases wh with
        | false =>
          simp only [↓STEP, SB, looked, behind, lookOk, AAct.kind, AOp.kind, wpRes, evRes, resV, AOp.ev, bin, binI, binS, shiftI, eqV, un, bound, boundO, fill, fillRows, aggOf, keyEq, findKey, putKey, V.cells, V.flat, byteOf, bytesOf, rdOf, H.wr, H.kOf, splice, isYl, ↓reduceIte, Nat.reduceEqDiff, Nat.reduceLeDiff, Nat.reduceLT, Nat.reduceAdd, Nat.reduceSub, Nat.reduceMul, Int.reduceLT, Int.reduceLE, Int.reduceEq, Int.reduceAdd, Int.reduceSub, Int.reduceMul, Int.reduceNeg, Int.reduceToNat, reduceCtorEq, hrl, hrfl, e5]
          exact ⟨ss, tt, r, _, rfl, ht, rfl, .inr (.inl ⟨hr, by rw [hbad]; exact .inr rfl, hIk _ _ _ hI (hk3 _ _)⟩)⟩
        | true =>
          simp only [↓STEP, SB, looked, behind, lookOk, AAct.kind, AOp.kind, wpRes, evRes, resV, AOp.ev, bin, binI, binS, shiftI, eqV, un, bound, boundO, fill, fillRows, aggOf, keyEq, findKey, putKey, V.cells, V.flat, byteOf, bytesOf, rdOf, H.wr, H.kOf, splice, isYl, ↓reduceIte, Nat.reduceEqDiff, Nat.reduceLeDiff, Nat.reduceLT, Nat.reduceAdd, Nat.reduceSub, Nat.reduceMul, Int.reduceLT, Int.reduceLE, Int.reduceEq, Int.reduceAdd, Int.reduceSub, Int.reduceMul, Int.reduceNeg, Int.reduceToNat, reduceCtorEq, hrl, hrfl, hr12, e5, e1]
          obtain ⟨hrr, hl10n⟩ := hct l rest rfl
          refine Runs.mono (c := c) («as» := [.i .i64 (ss.length : Nat), .agg row] ++ caps) (htell ss.length _ row (hIk _ _ _ hI (hk3 _ _)) hrl hrfl) ?_
          have hcat : tt ++ r = (tt ++ (l ++ [10])) ++ rest := by rw [hrr]; simp
          have ht' : Told (ss ++ [s']) (tt ++ (l ++ [10])) := .snoc ss tt s' l ht ok' hl10 hl10n
          have w1 : Go.IntKind.wrap .i64 (((ss.length : Nat) : Int) + 1) = ((ss.length + 1 : Nat) : Int) := wrap_i64 (by omega) (by omega)
          rintro v g4 (⟨rfl, hI'⟩ | ⟨rfl, hJ⟩)
          · simp only [↓STEP, SB, looked, behind, lookOk, AAct.kind, AOp.kind, wpRes, evRes, resV, AOp.ev, bin, binI, binS, shiftI, eqV, un, bound, boundO, fill, fillRows, aggOf, keyEq, findKey, putKey, V.cells, V.flat, byteOf, bytesOf, rdOf, H.wr, H.kOf, splice, isYl, ↓reduceIte, Nat.reduceEqDiff, Nat.reduceLeDiff, Nat.reduceLT, Nat.reduceAdd, Nat.reduceSub, Nat.reduceMul, Int.reduceLT, Int.reduceLE, Int.reduceEq, Int.reduceAdd, Int.reduceSub, Int.reduceMul, Int.reduceNeg, Int.reduceToNat, reduceCtorEq, e5, w1]
            exact ⟨_, by rw [hrr]; simp; omega, ss ++ [s'], _, rest, rfl, by simp [v_pd, v_pd0], by simp [v_pd, v_pd0], by simp [v_pd, v_pd0, e1], ht', by simpa using hI', hcat⟩
          · simp only [↓STEP, SB, looked, behind, lookOk, AAct.kind, AOp.kind, wpRes, evRes, resV, AOp.ev, bin, binI, binS, shiftI, eqV, un, bound, boundO, fill, fillRows, aggOf, keyEq, findKey, putKey, V.cells, V.flat, byteOf, bytesOf, rdOf, H.wr, H.kOf, splice, isYl, ↓reduceIte, Nat.reduceEqDiff, Nat.reduceLeDiff, Nat.reduceLT, Nat.reduceAdd, Nat.reduceSub, Nat.reduceMul, Int.reduceLT, Int.reduceLE, Int.reduceEq, Int.reduceAdd, Int.reduceSub, Int.reduceMul, Int.reduceNeg, Int.reduceToNat, reduceCtorEq]
            exact ⟨ss ++ [s'], _, rest, -1, rfl, ht', hcat, .inr (.inr ⟨ss.length, by simp, hJ⟩)⟩
  · exact ⟨[], [], s, rfl, by simp [v_pd, v_args_cons], by simp [v_pd], by simp [v_pd, v_args_cons], .nil, h0, rfl⟩
end Am
/- Script texts: steps gone over, and counted; the law ScriptLong. -/
namespace Am
set_option linter.unusedVariables false
set_option linter.unusedSimpArgs false
set_option maxRecDepth 20000
set_option maxHeartbeats 8000000
variable {pr : Prog}

/-- The body that counts. -/
def cntBody (q a b : Nat) : ACode := .block q (.region [⟨(some a), (.op (.load 1 false (.t 18))), none, 0⟩, ⟨(some b), (.op (.bin .add (.t a) (.c (.i .i64 1)))), none, 0⟩, ⟨none, (.op (.store 1 (.t 18) (.t b))), none, 0⟩])
def cntL (t : Tm) (nt q a b p1 p2 : Nat) : LoopSt := { st := .ready, pend := .normal, tm := t, nt := nt, params := [p1, p2], assign := .skip, body := cntBody q a b }
theorem round_count {lb cb nt q a b p1 p2 i : Nat} {t : Tm} {g : H} {x y : V} (h18 : t.v 18 = .p (some (cb, 0, 0))) (h1 : p1 ≠ 18) (h2 : p2 ≠ 18) (h3 : a ≠ 18) (h4 : b ≠ 18) (hl : g.get lb = some (.loop (cntL t nt q a b p1 p2))) (hc : g.get cb = some (.rows 1 [[.i .i64 (i : Nat)]] false)) (hne : cb ≠ lb) (hi : i < 5000) :
    Runs pr (.yl lb) [x, y] g (fun v g' => v = .b true ∧ g' = ((g.set lb (.loop { cntL t nt q a b p1 p2 with st := .busy })).set cb (.rows 1 [[.i .i64 ((i + 1 : Nat) : Int)]] false)).set lb (.loop (cntL t nt q a b p1 p2))) := by
  refine runs_yl hl rfl ?_
  have w1 : Go.IntKind.wrap .i64 (((i : Nat) : Int) + 1) = ((i + 1 : Nat) : Int) := wrap_i64 (by omega) (by omega)
  have e18 : (stParams t [p1, p2] [x, y]).v 18 = .p (some (cb, 0, 0)) := by
    simp only [stParams]
    rw [Tm.v_st, if_neg (Ne.symm h2), Tm.v_st, if_neg (Ne.symm h1), h18]
  show wpA pr nt (some lb) .skip (stParams t [p1, p2] [x, y]) g _
  generalize stParams t [p1, p2] [x, y] = tm at e18
  rw [wpA_skip]
  refine ⟨rfl, _, hl, rfl, ?_⟩
  show wpA pr nt (some lb) (cntBody q a b) tm _ _
  have hne' : ¬ lb = cb := fun hh => hne hh.symm
  have hb18 : ¬ (18 : Nat) = a := fun hh => h3 hh.symm
  have hb18' : ¬ (18 : Nat) = b := fun hh => h4 hh.symm
  unfold cntBody
  simp only [↓STEP, SB, looked, behind, lookOk, AAct.kind, AOp.kind, wpRes, evRes, resV, AOp.ev, bin, binI, binS, shiftI, eqV, un, bound, boundO, fill, fillRows, aggOf, keyEq, findKey, putKey, V.cells, V.flat, byteOf, bytesOf, rdOf, H.wr, H.kOf, splice, isYl, ↓reduceIte, Nat.reduceEqDiff, Nat.reduceLeDiff, Nat.reduceLT, Nat.reduceAdd, Nat.reduceSub, Nat.reduceMul, Int.reduceLT, Int.reduceLE, Int.reduceEq, Int.reduceAdd, Int.reduceSub, Int.reduceMul, Int.reduceNeg, Int.reduceToNat, reduceCtorEq, e18, hc, hne, hne', w1, hb18, hb18', hl]
  exact ⟨_, rfl, rfl⟩
/-- So many steps counted. -/
structure CountAt (h0 g : H) (lb cb : Nat) (L0 : LoopSt) (i : Nat) : Prop where
  cell : g.get cb = some (.rows 1 [[.i .i64 (i : Nat)]] false)
  loop : g.get lb = some (.loop L0)
  nx : h0.nx ≤ g.nx
  rest : ∀ b, b < h0.nx → b ≠ cb → b ≠ lb → g.get b = h0.get b
theorem CountAt.keep {h0 g g' : H} {lb cb i : Nat} {L0 : LoopSt} (o : CountAt h0 g lb cb L0 i) (hk : Kept g g') (hc : cb < h0.nx) (hl : lb < h0.nx) : CountAt h0 g' lb cb L0 i :=
  ⟨by rw [hk.2 cb (Nat.lt_of_lt_of_le hc o.nx)]; exact o.cell, by rw [hk.2 lb (Nat.lt_of_lt_of_le hl o.nx)]; exact o.loop, Nat.le_trans o.nx hk.1, fun b hb h1 h2 => by rw [hk.2 b (Nat.lt_of_lt_of_le hb o.nx)]; exact o.rest b hb h1 h2⟩
theorem steps1_big {kS1 ko kT1 : Nat} (hA : pr.ext kS1 = none) (hfn : pr.fn kS1 = some (c_script_Steps_1 ko kT1)) {h0 : H} {lb cb sb i : Nat} {L0 : LoopSt} {s : List UInt8} {ro : Bool} (hs : h0.get sb = some (.rows 1 [[.s s]] ro)) (hsb : sb < h0.nx) (hbig : 1048576 < s.length) (hc : cb < h0.nx) (hl : lb < h0.nx) (o : CountAt h0 h0 lb cb L0 i) :
    Runs pr (.fn kS1) [.f (.yl lb) [], .p (some (sb, 0, 0))] h0 (fun v g => CountAt h0 g lb cb L0 i) := by
  refine runs_of_wpF hA hfn ?_
  unfold wpF c_script_Steps_1
  refine ⟨by simp, ?_⟩
  have n1 : ¬ sb = h0.nx := by omega
  have hb : ¬ (s.length : Int) ≤ 1048576 := by omega
  simp only [↓STEP, SB, looked, behind, lookOk, AAct.kind, AOp.kind, wpRes, evRes, resV, AOp.ev, bin, binI, binS, shiftI, eqV, un, bound, boundO, fill, fillRows, aggOf, keyEq, findKey, putKey, V.cells, V.flat, byteOf, bytesOf, rdOf, H.wr, H.kOf, splice, isYl, ↓reduceIte, Nat.reduceEqDiff, Nat.reduceLeDiff, Nat.reduceLT, Nat.reduceAdd, Nat.reduceSub, Nat.reduceMul, Int.reduceLT, Int.reduceLE, Int.reduceEq, Int.reduceAdd, Int.reduceSub, Int.reduceMul, Int.reduceNeg, Int.reduceToNat, reduceCtorEq, hs, n1, hb]
  exact o.keep (Kept.push Kept.refl) hc hl
theorem steps1_runs {E : H → Bool} (hE : Eok E) {kS1 kT1 k kC kl kS kg ke kc ki kfo kH kse kr kF kw kT : Nat} (hSA1 : pr.ext kS1 = none) (hSf1 : pr.fn kS1 = some (c_script_Steps_1 k kT1)) (hTA : pr.ext kT1 = none) (hTf : pr.fn kT1 = some c_script_Steps_1_1) (hA : pr.ext k = none) (hfn : pr.fn k = some (c_script_over kC kl)) (hC : pr.ext kC = some gCutS)
    (hlA : pr.ext kl = none) (hlf : pr.fn kl = some (c_script_line kS kfo kH kse kr)) (hSA : pr.ext kS = none) (hSf : pr.fn kS = some (c_strings_Split kg)) (hgA : pr.ext kg = none) (hgf : pr.fn kg = some (c_strings_genSplit ke kc ki)) (hc : pr.ext kc = some gCnt) (hi : pr.ext ki = some gIx1)
    (hfo : pr.ext kfo = none) (hff : pr.fn kfo = some c_script_forms) (hH : pr.ext kH = some gSuf) (hsA : pr.ext kse = none) (hsf : pr.fn kse = some (c_script_settings kw)) (hrA : pr.ext kr = none) (hrf : pr.fn kr = some (c_script_reads kF kw kT)) (hF : pr.ext kF = some gRF) (hW : pr.ext kw = some (gWhole E)) (hT : pr.ext kT = some gRT)
    {h0 : H} {lb cb sb nt q a b p1 p2 : Nat} {t : Tm} {ro : Bool} (h18 : t.v 18 = .p (some (cb, 0, 0))) (h1 : p1 ≠ 18) (h2 : p2 ≠ 18) (h3 : a ≠ 18) (h4 : b ≠ 18) (hs : h0.get sb = some (.rows 1 [[.s (cutsN 4097)]] ro)) (hsb : sb < h0.nx) (hcb : cb < h0.nx) (hlb : lb < h0.nx) (hne : cb ≠ lb) (he : E h0 = true) (h40 : 4096 ≤ h0.nx) (hc4 : 4096 ≤ cb) (hl4 : 4096 ≤ lb) (o : CountAt h0 h0 lb cb (cntL t nt q a b p1 p2) 0) :
    Runs pr (.fn kS1) [.f (.yl lb) [], .p (some (sb, 0, 0))] h0 (fun v g => CountAt h0 g lb cb (cntL t nt q a b p1 p2) 4096) := by
  refine runs_of_wpF hSA1 hSf1 ?_
  unfold wpF c_script_Steps_1
  refine ⟨by simp, ?_⟩
  have n1 : ¬ sb = h0.nx := by omega
  have hlen := cutsN_len 4097
  have hb : ((cutsN 4097).length : Int) ≤ 1048576 := by omega
  generalize hcut : cutsN 4097 = S at *
  simp only [↓STEP, SB, looked, behind, lookOk, AAct.kind, AOp.kind, wpRes, evRes, resV, AOp.ev, bin, binI, binS, shiftI, eqV, un, bound, boundO, fill, fillRows, aggOf, keyEq, findKey, putKey, V.cells, V.flat, byteOf, bytesOf, rdOf, H.wr, H.kOf, splice, isYl, ↓reduceIte, Nat.reduceEqDiff, Nat.reduceLeDiff, Nat.reduceLT, Nat.reduceAdd, Nat.reduceSub, Nat.reduceMul, Int.reduceLT, Int.reduceLE, Int.reduceEq, Int.reduceAdd, Int.reduceSub, Int.reduceMul, Int.reduceNeg, Int.reduceToNat, reduceCtorEq, hs, n1, hb]
  refine Runs.mono (c := .fn k) («as» := [.s S, .f (.fn kT1) [.p (some (h0.nx, 0, 0))]] ++ []) (over_gen hE hA hfn hC hlA hlf hSA hSf hgA hgf hc hi hfo hff hH hsA hsf hrA hrf hF hW hT
    (I := fun i g => i ≤ 4096 ∧ CountAt h0 g lb cb (cntL t nt q a b p1 p2) i ∧ h0.nx < g.nx ∧ g.get h0.nx = some (.rows 1 [[.f (.yl lb) []]] false)) (J := fun i g => i = 4096 ∧ CountAt h0 g lb cb (cntL t nt q a b p1 p2) 4096) ?_ ?_ ?_ (by omega) ⟨Nat.zero_le _, o.keep (Kept.push Kept.refl) hcb hlb, Nat.lt_succ_self _, by rw [H.get_push, if_pos rfl]⟩) ?_
  · rintro i g g' ⟨c1, c2, c3, c4⟩ hk
    exact ⟨c1, c2.keep hk hcb hlb, Nat.lt_of_lt_of_le c3 hk.1, by rw [hk.2 _ c3]; exact c4⟩
  · rintro i g ⟨c1, c2, c3, c4⟩
    exact ⟨hE h0 g c2.nx (fun j hj => c2.rest j (by omega) (by omega) (by omega)) he, by omega⟩
  · rintro i g row ⟨c1, c2, c3, c4⟩ hrl hrf
    refine runs_of_wpF hTA hTf ?_
    have hr12 : List.take 12 row = row := List.take_of_length_le (by omega)
    have m1 : ¬ h0.nx = g.nx := by omega
    unfold wpF c_script_Steps_1_1
    refine ⟨by simp, ?_⟩
    by_cases hi6 : ((i : Nat) : Int) < 4096
    · simp only [↓STEP, SB, looked, behind, lookOk, AAct.kind, AOp.kind, wpRes, evRes, resV, AOp.ev, bin, binI, binS, shiftI, eqV, un, bound, boundO, fill, fillRows, aggOf, keyEq, findKey, putKey, V.cells, V.flat, byteOf, bytesOf, rdOf, H.wr, H.kOf, splice, isYl, ↓reduceIte, Nat.reduceEqDiff, Nat.reduceLeDiff, Nat.reduceLT, Nat.reduceAdd, Nat.reduceSub, Nat.reduceMul, Int.reduceLT, Int.reduceLE, Int.reduceEq, Int.reduceAdd, Int.reduceSub, Int.reduceMul, Int.reduceNeg, Int.reduceToNat, reduceCtorEq, hrl, hrf, hr12, hi6, c4, m1]
      have ck := c2.keep (g' := g.push (.rows 12 [row] false)) (Kept.push Kept.refl) hcb hlb
      refine Runs.mono (c := .yl lb) («as» := [.i .i64 (i : Nat), .agg row] ++ []) (round_count h18 h1 h2 h3 h4 ck.loop ck.cell hne (by omega)) ?_
      rintro v g' ⟨rfl, rfl⟩
      have m2 : ¬ h0.nx = lb := by omega
      have m3 : ¬ h0.nx = cb := by omega
      simp only [↓STEP, SB, looked, behind, lookOk, AAct.kind, AOp.kind, wpRes, evRes, resV, AOp.ev, bin, binI, binS, shiftI, eqV, un, bound, boundO, fill, fillRows, aggOf, keyEq, findKey, putKey, V.cells, V.flat, byteOf, bytesOf, rdOf, H.wr, H.kOf, splice, isYl, ↓reduceIte, Nat.reduceEqDiff, Nat.reduceLeDiff, Nat.reduceLT, Nat.reduceAdd, Nat.reduceSub, Nat.reduceMul, Int.reduceLT, Int.reduceLE, Int.reduceEq, Int.reduceAdd, Int.reduceSub, Int.reduceMul, Int.reduceNeg, Int.reduceToNat, reduceCtorEq, m1, m2, m3, c4]
      refine ⟨by omega, ⟨?_, ?_, ?_, fun j hj h1 h2 => ?_⟩, by omega⟩
      · rw [H.get_set, if_neg hne, H.get_set, if_pos rfl]
      · rw [H.get_set, if_pos rfl]
      · have := c2.nx; simp [nx_push, nx_set]; omega
      · rw [H.get_set, if_neg h2, H.get_set, if_neg h1, H.get_set, if_neg h2, H.get_push, if_neg (by omega)]
        exact c2.rest j hj h1 h2
    · have hi4 : i = 4096 := by omega
      subst hi4
      simp only [↓STEP, SB, looked, behind, lookOk, AAct.kind, AOp.kind, wpRes, evRes, resV, AOp.ev, bin, binI, binS, shiftI, eqV, un, bound, boundO, fill, fillRows, aggOf, keyEq, findKey, putKey, V.cells, V.flat, byteOf, bytesOf, rdOf, H.wr, H.kOf, splice, isYl, ↓reduceIte, Nat.reduceEqDiff, Nat.reduceLeDiff, Nat.reduceLT, Nat.reduceAdd, Nat.reduceSub, Nat.reduceMul, Int.reduceLT, Int.reduceLE, Int.reduceEq, Int.reduceAdd, Int.reduceSub, Int.reduceMul, Int.reduceNeg, Int.reduceToNat, reduceCtorEq, hrl, hrf, hi6]
      exact c2.keep (Kept.push Kept.refl) hcb hlb
  · rintro v g ⟨ss, tt, r, at', rfl, ht, hst, hcase⟩
    rw [← hcut] at hst
    rcases hcase with ⟨rfl, c1, _⟩ | ⟨hr, hb, _⟩ | ⟨i, hl, c1, c2⟩
    · exfalso
      obtain ⟨q1, q2⟩ := told_cuts ht 4097 [] hst
      have := congrArg List.length q2
      rw [cutsN_len] at this
      simp at this
      omega
    · exact (told_bad ht hst hr hb).elim
    · exact c2
end Am
/- The law ScriptLong. -/
namespace Am
set_option linter.unusedVariables false
set_option linter.unusedSimpArgs false
set_option maxRecDepth 20000
set_option maxHeartbeats 8000000
variable {pr : Prog}

def cRow : List V := [.i .i64 9, .i .i64 0, .i .i64 0, .i .i64 0, .sl none 0 0 true, .sl none 0 0 true, .b false, .i .i64 0, .i .i64 0, .i .i64 0, .i .i64 0, .i .i64 0]
def cutSp : Sp := ⟨9, 0, 0, 0, [], [], false, 0, 0, 0, 0, 0⟩
theorem cut_row (g : H) : spRow g cutSp cRow := ⟨none, 0, 0, true, none, 0, 0, true, rfl, ⟨rfl, .inl rfl⟩, rfl⟩
theorem cutSp_ok : SpR cutSp := ⟨⟨⟨by decide, by decide⟩, i64_0, i64_0, i64_0, fun c hc => by simp [Sp.cs, cutSp] at hc; subst hc; exact i64_0⟩, by simp [cutSp, totF], by simp [cutSp]⟩
theorem cut_line : lineF cutSp = some (cutW ++ [10]) := by
  unfold lineF
  simp [cutSp, formsL, cutW, joinS]
theorem told_rep : ∀ n, Told (List.replicate n cutSp) (cutsN n)
  | 0 => .nil
  | n + 1 => by
    have := Told.snoc _ _ cutSp cutW (told_rep n) cutSp_ok cut_line (by decide)
    rw [show cutW ++ [10] = [99, 117, 116, 10] from rfl, cutsN_snoc] at this
    rw [List.replicate_succ']
    exact this
theorem OutB.setB {h0 g : H} {a : Option (Nat × Nat)} {n c i : Nat} {out : List UInt8} (o : OutB h0 g a n c out) {X : Blk} (hi : h0.nx ≤ i) (hne : blkOf a ≠ some i) : OutB h0 (g.set i X) a n c out :=
  ⟨o.sl.keep (Nat.le_refl _) fun j hj => by rw [H.get_set, if_neg (by rintro rfl; exact hne hj)], o.kept.set hi, o.fresh⟩
def LgLoop (h : H) (K : Nat) (m : Nat) (t : Tm) (g : H) : Prop :=
  ∃ (i n c : Nat) (a : Option (Nat × Nat)) (ex : Bool), m = K - i ∧ i ≤ K ∧ t.v 3 = .i .i64 (i : Nat) ∧ t.v 1 = .sl (some (h.nx, 0)) K K true ∧ t.v 2 = .sl a n c ex ∧ h.nx < g.nx ∧ g.get h.nx = some (.rows 12 (List.replicate i cRow ++ List.replicate (K - i) zRow) false) ∧ OutB h g a n c (cutsN i) ∧ n = 4 * i ∧ n ≤ c
/-- What the reader answers to what is too long. -/
def ReadsBig (pr : Prog) (k : Nat) : Prop := ∀ (h : H) (s : List UInt8), 1048576 < s.length → Runs pr (.fn k) [.s s] h (fun v g => v = .tup [.sl none 0 0 true, .i .i64 0, .i .i64 2] ∧ Kept h g)
theorem reads_big {k ko kR : Nat} (hA : pr.ext k = none) (hfn : pr.fn k = some (c_script_Read ko kR)) : ReadsBig pr k := by
  intro h s hs
  refine runs_of_wpF hA hfn ?_
  unfold wpF c_script_Read
  refine ⟨by simp, ?_⟩
  have hbig : (1048576 : Int) < (s.length : Int) := by omega
  simp only [↓STEP, SB, looked, behind, lookOk, AAct.kind, AOp.kind, wpRes, evRes, resV, AOp.ev, bin, binI, binS, shiftI, eqV, un, bound, boundO, fill, fillRows, aggOf, keyEq, findKey, putKey, V.cells, V.flat, byteOf, bytesOf, rdOf, H.wr, H.kOf, splice, isYl, ↓reduceIte, Nat.reduceEqDiff, Nat.reduceLeDiff, Nat.reduceLT, Nat.reduceAdd, Nat.reduceSub, Nat.reduceMul, Int.reduceLT, Int.reduceLE, Int.reduceEq, Int.reduceAdd, Int.reduceSub, Int.reduceMul, Int.reduceNeg, Int.reduceToNat, reduceCtorEq, hbig]
  exact Kept.refl
theorem steps_fn {k k1 : Nat} (hA : pr.ext k = none) (hfn : pr.fn k = some (c_script_Steps k1)) (h : H) (s : List UInt8) : Runs pr (.fn k) [.s s] h (fun v g => v = .f (.fn k1) [.p (some (h.nx, 0, 0))] ∧ g = h.push (.rows 1 [[.s s]] false)) := by
  refine runs_of_wpF hA hfn ?_
  unfold wpF c_script_Steps
  refine ⟨by simp, ?_⟩
  simp only [↓STEP, SB, looked, behind, lookOk, AAct.kind, AOp.kind, wpRes, evRes, resV, AOp.ev, bin, binI, binS, shiftI, eqV, un, bound, boundO, fill, fillRows, aggOf, keyEq, findKey, putKey, V.cells, V.flat, byteOf, bytesOf, rdOf, H.wr, H.kOf, splice, isYl, ↓reduceIte, Nat.reduceEqDiff, Nat.reduceLeDiff, Nat.reduceLT, Nat.reduceAdd, Nat.reduceSub, Nat.reduceMul, Int.reduceLT, Int.reduceLE, Int.reduceEq, Int.reduceAdd, Int.reduceSub, Int.reduceMul, Int.reduceNeg, Int.reduceToNat, reduceCtorEq]
/-- Who ranges over the steps of many cuts counts them; of what is too long none. -/
def StepsCnt (pr : Prog) (E : H → Bool) (k1 : Nat) : Prop := ∀ (h0 : H) (lb cb sb nt q a b p1 p2 : Nat) (t : Tm), t.v 18 = .p (some (cb, 0, 0)) → p1 ≠ 18 → p2 ≠ 18 → a ≠ 18 → b ≠ 18 → h0.get sb = some (.rows 1 [[.s (cutsN 4097)]] false) → sb < h0.nx → cb < h0.nx → lb < h0.nx → cb ≠ lb → E h0 = true → 4096 ≤ h0.nx → 4096 ≤ cb → 4096 ≤ lb → CountAt h0 h0 lb cb (cntL t nt q a b p1 p2) 0 →
  Runs pr (.fn k1) [.f (.yl lb) [], .p (some (sb, 0, 0))] h0 (fun v g => CountAt h0 g lb cb (cntL t nt q a b p1 p2) 4096)
def StepsBig (pr : Prog) (k1 : Nat) : Prop := ∀ (h0 : H) (lb cb sb i : Nat) (L0 : LoopSt) (s : List UInt8), h0.get sb = some (.rows 1 [[.s s]] false) → sb < h0.nx → 1048576 < s.length → cb < h0.nx → lb < h0.nx → CountAt h0 h0 lb cb L0 i → Runs pr (.fn k1) [.f (.yl lb) [], .p (some (sb, 0, 0))] h0 (fun v g => CountAt h0 g lb cb L0 i)
theorem wpA_cnt {E : H → Bool} {k1 : Nat} (hSC : StepsCnt pr E k1) {nt : Nat} {t : Tm} {g : H} {Q : Ex → Tm → H → Prop} {f : AOpd} {q a b p1 p2 sb cb : Nat} (hf : t.ev f = .f (.fn k1) [.p (some (sb, 0, 0))]) (h18 : t.v 18 = .p (some (cb, 0, 0))) (h1 : p1 ≠ 18) (h2 : p2 ≠ 18) (h3 : a ≠ 18) (h4 : b ≠ 18) (hs : g.get sb = some (.rows 1 [[.s (cutsN 4097)]] false)) (hsb : sb < g.nx) (hcb : cb < g.nx) (he : E (g.push (.loop (cntL t nt q a b p1 p2))) = true) (h40 : 4096 ≤ g.nx) (hc4 : 4096 ≤ cb) (hcell : g.get cb = some (.rows 1 [[.i .i64 ((0 : Nat) : Int)]] false))
    (hq : ∀ g6, CountAt (g.push (.loop (cntL t nt q a b p1 p2))) g6 g.nx cb (cntL t nt q a b p1 p2) 4096 → Q .normal t (g6.kill g.nx)) : wpA pr nt none (.rfn f [p1, p2] .skip (cntBody q a b)) t g Q := by
  refine wpA_rfn rfl hf ?_
  refine Runs.mono (hSC (g.push (.loop (cntL t nt q a b p1 p2))) g.nx cb sb nt q a b p1 p2 t h18 h1 h2 h3 h4 (by rw [H.get_push, if_neg (by omega)]; exact hs) (Nat.lt_succ_of_lt hsb) (Nat.lt_succ_of_lt hcb) (Nat.lt_succ_self _) (by omega) he (Nat.le_succ_of_le h40) hc4 h40 ⟨by rw [H.get_push, if_neg (by omega)]; exact hcell, by rw [H.get_push, if_pos rfl], Nat.le_refl _, fun _ _ _ _ => rfl⟩) ?_
  intro v g6 o
  exact ⟨_, o.loop, (fun hh => by cases hh), hq g6 o⟩
theorem wpA_big {k1 : Nat} (hSB : StepsBig pr k1) {nt : Nat} {t : Tm} {g : H} {Q : Ex → Tm → H → Prop} {f : AOpd} {q a b p1 p2 sb cb i : Nat} {s : List UInt8} (hf : t.ev f = .f (.fn k1) [.p (some (sb, 0, 0))]) (hs : g.get sb = some (.rows 1 [[.s s]] false)) (hbig : 1048576 < s.length) (hsb : sb < g.nx) (hcb : cb < g.nx) (hcell : g.get cb = some (.rows 1 [[.i .i64 ((i : Nat) : Int)]] false))
    (hq : ∀ g6, CountAt (g.push (.loop (cntL t nt q a b p1 p2))) g6 g.nx cb (cntL t nt q a b p1 p2) i → Q .normal t (g6.kill g.nx)) : wpA pr nt none (.rfn f [p1, p2] .skip (cntBody q a b)) t g Q := by
  refine wpA_rfn rfl hf ?_
  refine Runs.mono (hSB (g.push (.loop (cntL t nt q a b p1 p2))) g.nx cb sb i (cntL t nt q a b p1 p2) s (by rw [H.get_push, if_neg (by omega)]; exact hs) (Nat.lt_succ_of_lt hsb) hbig (Nat.lt_succ_of_lt hcb) (Nat.lt_succ_self _) ⟨by rw [H.get_push, if_neg (by omega)]; exact hcell, by rw [H.get_push, if_pos rfl], Nat.le_refl _, fun _ _ _ _ => rfl⟩) ?_
  intro v g6 o
  exact ⟨_, o.loop, (fun hh => by cases hh), hq g6 o⟩
theorem long_law {E : H → Bool} {Y : H → Int → Bool} {kW kR kSt kb : Nat} (hb : pr.ext kb = some (xConst (.b true))) (hW : pr.ext kW = some (gWr Y)) (hR : ReadsAll pr E kR) (hRB : ReadsBig pr kR) {k1 : Nat} (hSA : pr.ext kSt = none) (hSf : pr.fn kSt = some (c_script_Steps k1)) (hSC : StepsCnt pr E k1) (hSB : StepsBig pr k1)
    {h : H} (hz : ∀ g, Kept h g → ∀ n, Y g n = true) (he : ∀ g, Kept h g → E g = true) (h4 : 4096 ≤ h.nx) :
    wpF pr (c_isthmuslaw23_ScriptLong kW kR kSt kb) [] h (fun v _ => v = .b true) := by
  have xb := @wpCall_ext pr kb (xConst (.b true)) hb
  have yb : ∀ g, xConst (.b true) [] g = some (.b true, g) := fun g => rfl
  have x1 := @wpCall_ext pr kW (gWr Y) hW
  unfold wpF c_isthmuslaw23_ScriptLong
  obtain ⟨K, hK, hK4⟩ : ∃ K : Nat, (4097 : Int) = (K : Int) ∧ K = 4097 := ⟨4097, rfl, rfl⟩
  obtain ⟨M, hM, hM4⟩ : ∃ M : Nat, (1048577 : Int) = (M : Int) ∧ M = 1048577 := ⟨1048577, rfl, rfl⟩
  rw [hK, hM]
  refine ⟨by simp, ?_⟩
  have h128 : 128 * K ≤ 140737488355328 := by omega
  simp only [↓STEP, SB, looked, behind, lookOk, AAct.kind, AOp.kind, wpRes, evRes, resV, AOp.ev, bin, binI, binS, shiftI, eqV, un, bound, boundO, fill, fillRows, aggOf, keyEq, findKey, putKey, V.cells, V.flat, byteOf, bytesOf, rdOf, H.wr, H.kOf, splice, isYl, ↓reduceIte, Nat.reduceEqDiff, Nat.reduceLeDiff, Nat.reduceLT, Nat.reduceAdd, Nat.reduceSub, Nat.reduceMul, Int.reduceLT, Int.reduceLE, Int.reduceEq, Int.reduceAdd, Int.reduceSub, Int.reduceMul, Int.reduceNeg, Int.reduceToNat, reduceCtorEq, Int.toNat_natCast, h128, Int.le_refl]
  refine wpA_loop_inv (LgLoop h K) ?_ (m := K) ?_
  · rintro m t g ⟨i, n, c, a, ex, rfl, hi, e3, e1, e2, hnx, hg, o, hn, hnc⟩
    by_cases hlt : (i : Int) < (K : Int)
    · have hat : (List.replicate i cRow ++ List.replicate (K - i) zRow)[i]? = some zRow := by
        rw [List.getElem?_append_right (by rw [List.length_replicate]; omega), List.length_replicate, Nat.sub_self]
        obtain ⟨q, hq⟩ : ∃ q, K - i = q + 1 := ⟨K - 1 - i, by omega⟩
        rw [hq]; rfl
      have hst : (List.replicate i cRow ++ List.replicate (K - i) zRow).set i cRow = List.replicate (i + 1) cRow ++ List.replicate (K - (i + 1)) zRow := by
        rw [List.set_append_right _ _ (by rw [List.length_replicate]; omega), List.length_replicate, Nat.sub_self]
        obtain ⟨q, hq⟩ : ∃ q, K - i = q + 1 := ⟨K - 1 - i, by omega⟩
        rw [hq, show K - (i + 1) = q by omega, List.replicate_succ, List.set_cons_zero, List.replicate_succ', List.append_assoc]
        rfl
      generalize List.replicate i cRow ++ List.replicate (K - i) zRow = rows at *
      have wi : Go.IntKind.wrap .i64 ((i : Int) + 1) = ((i + 1 : Nat) : Int) := wrap_i64 (by omega) (by omega)
      have hab : blkOf a ≠ some h.nx := by
        intro hh
        obtain ⟨_, _, h3⟩ := o.sl
        cases a with
        | none => cases hh
        | some p =>
          obtain ⟨b, r⟩ := p
          obtain ⟨_, all, hg', _⟩ := h3
          have : b = h.nx := Option.some.inj hh
          rw [this, hg] at hg'; cases hg'
      have hzl : zRow = [.i .i64 0, .i .i64 0, .i .i64 0, .i .i64 0, .sl none 0 0 true, .sl none 0 0 true, .b false, .i .i64 0, .i .i64 0, .i .i64 0, .i .i64 0, .i .i64 0] := rfl
      have o2 : OutB h (g.set h.nx (.rows 12 (rows.set i cRow) false)) a n c (cutsN i) := o.setB (Nat.le_refl _) hab
      obtain ⟨a2, c2, ex2, g2, q1, o3', k1', k2', k3'⟩ := o2.sl.app (bytes := 1) (ex := ex) (new := [99, 117, 116, 10]) (by unfold roomOk; simp; omega)
      have o3 : OutB h g2 a2 (n + 4) c2 (cutsN i ++ [99, 117, 116, 10]) := by
        obtain ⟨a3, c3, ex3, g3, q3, o4⟩ := o2.app ex [99, 117, 116, 10] (by simp; omega)
        rw [q1] at q3
        cases q3
        exact o4
      have hq1 : h.nx < g2.nx := Nat.lt_of_lt_of_le hnx k1'
      have hq2 : g2.get h.nx = some (.rows 12 (List.replicate (i + 1) cRow ++ List.replicate (K - (i + 1)) zRow) false) := by
        rw [k2' h.nx hnx hab, H.get_set, if_pos rfl, hst]
      have hcr : cRow = [.i .i64 9, .i .i64 0, .i .i64 0, .i .i64 0, .sl none 0 0 true, .sl none 0 0 true, .b false, .i .i64 0, .i .i64 0, .i .i64 0, .i .i64 0, .i .i64 0] := rfl
      rw [hcr] at q1
      rw [hzl] at hat
      simp only [↓STEP, SB, looked, behind, lookOk, AAct.kind, AOp.kind, wpRes, evRes, resV, AOp.ev, bin, binI, binS, shiftI, eqV, un, bound, boundO, fill, fillRows, aggOf, keyEq, findKey, putKey, V.cells, V.flat, byteOf, bytesOf, rdOf, H.wr, H.kOf, splice, isYl, ↓reduceIte, Nat.reduceEqDiff, Nat.reduceLeDiff, Nat.reduceLT, Nat.reduceAdd, Nat.reduceSub, Nat.reduceMul, Int.reduceLT, Int.reduceLE, Int.reduceEq, Int.reduceAdd, Int.reduceSub, Int.reduceMul, Int.reduceNeg, Int.reduceToNat, reduceCtorEq, e3, e1, e2, hlt, hg, hat, wi, q1]
      exact ⟨_, by omega, i + 1, n + 4, c2, a2, ex2, rfl, by omega, by simp [v_pd, v_pd0], by simp [v_pd, v_pd0, e1], by simp [v_pd, v_pd0], hq1, hq2, by rw [← cutsN_snoc]; exact o3, by omega, o3.sl.2.1⟩
    · have hi4 : i = K := by omega
      subst hi4
      have hW1 : gWr Y [.sl (some (h.nx, 0)) i i true] g = some (.tup [.s [], .i .i64 2], g) := by
        unfold gWr; simp only; rw [if_pos (by omega)]
      have h1i : (1 : Int) ≤ (i : Int) := by omega
      have hst2 : stepsIn g (some (h.nx, 1)) (i - 1) (List.replicate (i - 1) cutSp) := by
        refine ⟨by simp, .inr ⟨h.nx, 1, _, false, rfl, hnx, hg, fun j s hj => ?_⟩⟩
        have hjl := (List.getElem?_eq_some_iff.1 hj).1
        rw [List.length_replicate] at hjl
        rw [List.getElem?_replicate, if_pos hjl] at hj
        cases hj
        exact ⟨cRow, by rw [List.getElem?_append_left (by rw [List.length_replicate]; omega), List.getElem?_replicate, if_pos (by omega)], cut_row g⟩
      have hW2 : gWr Y [.sl (some (h.nx, 1)) (i - 1) (i - 1) true] g = some (.tup [.s (cutsN (i - 1)), .i .i64 0], g) := by
        rw [gWr_eq hst2 fun s hs => by rw [(List.mem_replicate.1 hs).2]; exact spOk_R (hz _ o.kept) cutSp_ok, told_writeV (told_rep _) (by rw [cutsN_len]; omega) (by simp; omega)]
      have hbs : g.bseg a n = some (cutsN i) := o.sl.bseg
      simp only [↓STEP, SB, looked, behind, lookOk, AAct.kind, AOp.kind, wpRes, evRes, resV, AOp.ev, bin, binI, binS, shiftI, eqV, un, bound, boundO, fill, fillRows, aggOf, keyEq, findKey, putKey, V.cells, V.flat, byteOf, bytesOf, rdOf, H.wr, H.kOf, splice, isYl, ↓reduceIte, Nat.reduceEqDiff, Nat.reduceLeDiff, Nat.reduceLT, Nat.reduceAdd, Nat.reduceSub, Nat.reduceMul, Int.reduceLT, Int.reduceLE, Int.reduceEq, Int.reduceAdd, Int.reduceSub, Int.reduceMul, Int.reduceNeg, Int.reduceToNat, reduceCtorEq, e3, e1, e2, hlt, x1, hW1, hW2, h1i, hg, hbs]
      have hRl : (cutsN i).length < 1000000 := by rw [cutsN_len]; omega
      refine Runs.mono (c := .fn kR) («as» := [.s (cutsN i)] ++ []) (hR g _ hRl (he _ o.kept) (Nat.le_trans h4 o.kept.1)) ?_
      intro v g2 hr2
      rw [hK4] at hr2
      obtain ⟨hk2, p2, n2, x2, rfl⟩ := read_cuts1 hr2
      rw [hn] at hbs
      obtain ⟨b0, r0, all0, ro0, rfl, hb0, hle0, hl0, _⟩ := bseg_open hbs (by omega)
      have hb0l : b0 < g.nx := o.sl.lt rfl
      have hb02 : g2.get b0 = some (.bytes all0 ro0) := by rw [hk2.2 b0 hb0l]; exact hb0
      have hbs2 : g2.bseg (some (b0, r0)) (4 * i) = some (cutsN i) := bseg_kept hbs (fun c hc => by cases hc; exact hb0l) hk2
      have hbs4 : g2.bseg (some (b0, r0 + 4)) (4 * i - 4) = some (cutsN (i - 1)) := by
        have := bseg_from hbs2 (s := 4) (by omega)
        rw [this]
        obtain ⟨q, hq⟩ : ∃ q, i = q + 1 := ⟨i - 1, by omega⟩
        rw [hq]; rfl
      have h4n : (4 : Int) ≤ ((4 * i : Nat) : Int) := by omega
      subst hn
      simp only [↓STEP, SB, looked, behind, lookOk, AAct.kind, AOp.kind, wpRes, evRes, resV, AOp.ev, bin, binI, binS, shiftI, eqV, un, bound, boundO, fill, fillRows, aggOf, keyEq, findKey, putKey, V.cells, V.flat, byteOf, bytesOf, rdOf, H.wr, H.kOf, splice, isYl, ↓reduceIte, Nat.reduceEqDiff, Nat.reduceLeDiff, Nat.reduceLT, Nat.reduceAdd, Nat.reduceSub, Nat.reduceMul, Int.reduceLT, Int.reduceLE, Int.reduceEq, Int.reduceAdd, Int.reduceSub, Int.reduceMul, Int.reduceNeg, Int.reduceToNat, reduceCtorEq, e2, h4n, hb02, hbs4]
      have hRl2 : (cutsN (i - 1)).length < 1000000 := by rw [cutsN_len]; omega
      refine Runs.mono (c := .fn kR) («as» := [.s (cutsN (i - 1))] ++ []) (hR g2 _ hRl2 (he _ (o.kept.trans hk2)) (Nat.le_trans h4 (o.kept.trans hk2).1)) ?_
      intro v g3 hr3
      rw [show i - 1 = 4096 by omega] at hr3
      obtain ⟨hk3, p3, x3, rfl⟩ := read_cuts2 hr3
      have hM1 : 1 * M ≤ 140737488355328 := by omega
      have hbsM : ∀ g : H, (g.push (.bytes (List.replicate M 0) false)).bseg (some (g.nx, 0)) M = some (List.replicate M 0) := fun g => by
        have := bseg_tmp g (List.replicate M (0 : UInt8))
        rwa [List.length_replicate] at this
      have hM2 : M ≤ 140737488355328 := by omega
      simp only [↓STEP, SB, looked, behind, lookOk, AAct.kind, AOp.kind, wpRes, evRes, resV, AOp.ev, bin, binI, binS, shiftI, eqV, un, bound, boundO, fill, fillRows, aggOf, keyEq, findKey, putKey, V.cells, V.flat, byteOf, bytesOf, rdOf, H.wr, H.kOf, splice, isYl, ↓reduceIte, Nat.reduceEqDiff, Nat.reduceLeDiff, Nat.reduceLT, Nat.reduceAdd, Nat.reduceSub, Nat.reduceMul, Int.reduceLT, Int.reduceLE, Int.reduceEq, Int.reduceAdd, Int.reduceSub, Int.reduceMul, Int.reduceNeg, Int.reduceToNat, reduceCtorEq, Int.toNat_natCast, Int.le_refl, hM1, hM2, hbsM]
      refine Runs.mono (c := .fn kR) («as» := [.s (List.replicate M 0)] ++ []) (hRB (g3.push (.bytes (List.replicate M 0) false)) _ (by rw [List.length_replicate]; omega)) ?_
      rintro v g4 ⟨rfl, hk4⟩
      have hk34 : Kept g3 g4 := (Kept.push Kept.refl).trans hk4
      have hk24 := hk3.trans hk34
      have hkh4 : Kept h g4 := (o.kept.trans hk2).trans hk24
      have hb02l : b0 < g2.nx := Nat.lt_of_lt_of_le hb0l hk2.1
      have hbs5 : ((g4.push (.rows 1 [[.i .i64 0]] false)).set g4.nx (.rows 1 [[.i .i64 0]] false)).bseg (some (b0, r0)) (4 * i) = some (cutsN i) := bseg_kept hbs2 (fun c hc => by cases hc; exact hb02l) (hk24.trans ((Kept.push Kept.refl).set (Nat.le_refl _)))
      have hkM : g4.get g3.nx = some (.bytes (List.replicate M 0) false) := by rw [hk4.2 g3.nx (by simp [nx_push]), H.get_push, if_pos rfl]
      have hg34 : g3.nx < g4.nx := hk4.1
      simp only [↓STEP, SB, looked, behind, lookOk, AAct.kind, AOp.kind, wpRes, evRes, resV, AOp.ev, bin, binI, binS, shiftI, eqV, un, bound, boundO, fill, fillRows, aggOf, keyEq, findKey, putKey, V.cells, V.flat, byteOf, bytesOf, rdOf, H.wr, H.kOf, splice, isYl, ↓reduceIte, Nat.reduceEqDiff, Nat.reduceLeDiff, Nat.reduceLT, Nat.reduceAdd, Nat.reduceSub, Nat.reduceMul, Int.reduceLT, Int.reduceLE, Int.reduceEq, Int.reduceAdd, Int.reduceSub, Int.reduceMul, Int.reduceNeg, Int.reduceToNat, reduceCtorEq, hbs5]
      refine Runs.mono (c := .fn kSt) («as» := [.s (cutsN i)] ++ []) (steps_fn hSA hSf _ _) ?_
      rintro v g5 ⟨rfl, hg5⟩
      have hnx5 : g5.nx = g4.nx + 2 := by rw [hg5]; rfl
      have hcell5 : g5.get g4.nx = some (.rows 1 [[.i .i64 ((0 : Nat) : Int)]] false) := by
        rw [hg5, H.get_push, if_neg (by show g4.nx ≠ g4.nx + 1; omega), H.get_set, if_pos rfl]; rfl
      have hstr5 : g5.get (g4.nx + 1) = some (.rows 1 [[.s (cutsN i)]] false) := by
        rw [hg5, H.get_push]; exact if_pos rfl
      have hk45 : Kept g4 g5 := by
        rw [hg5]
        exact Kept.push ((Kept.push Kept.refl).set (Nat.le_refl _))
      have hnx1 : ((g4.push (.rows 1 [[.i .i64 0]] false)).set g4.nx (.rows 1 [[.i .i64 0]] false)).nx = g4.nx + 1 := rfl
      rw [hnx1]
      have hg3M : g5.get g3.nx = some (.bytes (List.replicate M 0) false) := by rw [hk45.2 g3.nx hg34]; exact hkM
      clear hg5 hnx1
      have hkh5 : Kept h g5 := hkh4.trans hk45
      have hnh := hkh4.1
      simp only [↓STEP, SB, looked, behind, lookOk, AAct.kind, AOp.kind, wpRes, evRes, resV, AOp.ev, bin, binI, binS, shiftI, eqV, un, bound, boundO, fill, fillRows, aggOf, keyEq, findKey, putKey, V.cells, V.flat, byteOf, bytesOf, rdOf, H.wr, H.kOf, splice, isYl, ↓reduceIte, Nat.reduceEqDiff, Nat.reduceLeDiff, Nat.reduceLT, Nat.reduceAdd, Nat.reduceSub, Nat.reduceMul, Int.reduceLT, Int.reduceLE, Int.reduceEq, Int.reduceAdd, Int.reduceSub, Int.reduceMul, Int.reduceNeg, Int.reduceToNat, reduceCtorEq]
      refine wpA_cnt hSC (sb := g4.nx + 1) (cb := g4.nx) (q := 3) (a := 76) (b := 77) (by simp [ev_t, v_pd, v_pd0]) (by simp [v_pd, v_pd0]) (by decide) (by decide) (by decide) (by decide) (by rw [hstr5, hK4]) (by omega) (by omega) (he _ (hkh5.trans (Kept.push Kept.refl))) (by omega) (by omega) hcell5 ?_
      rintro g6 ⟨hcell6, hloop6, hnx6, hrest6⟩
      have hnx6' : g5.nx + 1 ≤ g6.nx := hnx6
      have hc7 : (g6.kill g5.nx).get g4.nx = some (.rows 1 [[.i .i64 ((4096 : Nat) : Int)]] false) := by rw [H.get_kill, if_neg (by omega)]; exact hcell6
      have hM7 : (g6.kill g5.nx).get g3.nx = some (.bytes (List.replicate M 0) false) := by
        rw [H.get_kill, if_neg (by omega), hrest6 g3.nx (by show g3.nx < g5.nx + 1; omega) (by omega) (by omega), H.get_push, if_neg (by omega)]
        exact hg3M
      have hbM7 : (g6.kill g5.nx).bseg (some (g3.nx, 0)) M = some (List.replicate M 0) := by
        unfold H.bseg
        rw [if_neg (by omega)]
        simp only [hM7]
        rw [if_pos (by rw [List.length_replicate]; omega), List.drop_zero, List.take_of_length_le (by rw [List.length_replicate]; omega)]
      have hnx7 : g5.nx + 1 ≤ (g6.kill g5.nx).nx := hnx6'
      clear hcell6 hloop6 hnx6 hrest6
      generalize g6.kill g5.nx = g7 at *
      simp only [↓STEP, SB, looked, behind, lookOk, AAct.kind, AOp.kind, wpRes, evRes, resV, AOp.ev, bin, binI, binS, shiftI, eqV, un, bound, boundO, fill, fillRows, aggOf, keyEq, findKey, putKey, V.cells, V.flat, byteOf, bytesOf, rdOf, H.wr, H.kOf, splice, isYl, ↓reduceIte, Nat.reduceEqDiff, Nat.reduceLeDiff, Nat.reduceLT, Nat.reduceAdd, Nat.reduceSub, Nat.reduceMul, Int.reduceLT, Int.reduceLE, Int.reduceEq, Int.reduceAdd, Int.reduceSub, Int.reduceMul, Int.reduceNeg, Int.reduceToNat, reduceCtorEq, hbM7]
      refine Runs.mono (c := .fn kSt) («as» := [.s (List.replicate M 0)] ++ []) (steps_fn hSA hSf _ _) ?_
      rintro v g8 ⟨rfl, hg8⟩
      have hnx8 : g8.nx = g7.nx + 1 := by rw [hg8]; rfl
      have hcell8 : g8.get g4.nx = some (.rows 1 [[.i .i64 ((4096 : Nat) : Int)]] false) := by rw [hg8, H.get_push, if_neg (by omega)]; exact hc7
      have hstr8 : g8.get g7.nx = some (.rows 1 [[.s (List.replicate M 0)]] false) := by rw [hg8, H.get_push]; exact if_pos rfl
      clear hg8
      simp only [↓STEP, SB, looked, behind, lookOk, AAct.kind, AOp.kind, wpRes, evRes, resV, AOp.ev, bin, binI, binS, shiftI, eqV, un, bound, boundO, fill, fillRows, aggOf, keyEq, findKey, putKey, V.cells, V.flat, byteOf, bytesOf, rdOf, H.wr, H.kOf, splice, isYl, ↓reduceIte, Nat.reduceEqDiff, Nat.reduceLeDiff, Nat.reduceLT, Nat.reduceAdd, Nat.reduceSub, Nat.reduceMul, Int.reduceLT, Int.reduceLE, Int.reduceEq, Int.reduceAdd, Int.reduceSub, Int.reduceMul, Int.reduceNeg, Int.reduceToNat, reduceCtorEq]
      refine wpA_big hSB (sb := g7.nx) (cb := g4.nx) (i := 4096) (q := 5) (a := 86) (b := 87) (by simp [ev_t, v_pd, v_pd0]) hstr8 (by rw [List.length_replicate]; omega) (by omega) (by omega) hcell8 ?_
      rintro g9 ⟨hcell9, hloop9, hnx9, hrest9⟩
      have hc10 : (g9.kill g8.nx).get g4.nx = some (.rows 1 [[.i .i64 ((4096 : Nat) : Int)]] false) := by rw [H.get_kill, if_neg (by omega)]; exact hcell9
      clear hcell9 hloop9 hrest9
      generalize g9.kill g8.nx = g10 at *
      have c96 : ((4096 : Nat) : Int) = 4096 := rfl
      rw [c96] at hc10
      simp only [↓STEP, SB, looked, behind, lookOk, AAct.kind, AOp.kind, wpRes, evRes, resV, AOp.ev, bin, binI, binS, shiftI, eqV, un, bound, boundO, fill, fillRows, aggOf, keyEq, findKey, putKey, V.cells, V.flat, byteOf, bytesOf, rdOf, H.wr, H.kOf, splice, isYl, ↓reduceIte, Nat.reduceEqDiff, Nat.reduceLeDiff, Nat.reduceLT, Nat.reduceAdd, Nat.reduceSub, Nat.reduceMul, Int.reduceLT, Int.reduceLE, Int.reduceEq, Int.reduceAdd, Int.reduceSub, Int.reduceMul, Int.reduceNeg, Int.reduceToNat, reduceCtorEq, xb, yb, hc10]
  · exact ⟨0, 0, 0, none, true, rfl, Nat.zero_le _, by simp [v_pd, v_pd0], by simp [v_pd, v_pd0], by simp [v_pd, v_pd0], Nat.lt_succ_self _, by rw [H.get_push, if_pos rfl]; simp [zRow], (OutB.nil h).push _, rfl, Nat.le_refl _⟩
end Am
/- The law's frame beside those variables, without a bulk. -/
namespace Am
open Go (IntKind Value Program TypeId World DataW MemPlace)
variable {P : Program}
theorem law_callsGE {pr : Prog} (hp : ProgOk P pr) {G T ga gb : Nat} (hgl : glOf P G = some ⟨G, 0, 1, 1⟩) (hglT : glOf P T = some ⟨T, 0, 20, 1⟩) (hgla : glOf P ga = some ⟨ga, 0, 1, 1⟩) (hglb : glOf P gb = some ⟨gb, 0, 1, 1⟩) {name : String} (hname : P.globalNamed name = some T) {f : Nat} {af : AFunc} (hx : pr.ext f = none) (hf : pr.fn f = some af) {HT : Type} {enc : TypeId × Value → HT} {w : World} {m : Int} (hc : w.cell? ⟨G, 0, none⟩ = some (.int .i64 m)) (htab : Go.Lib.TabIs P w name .u64 Go.Lib.pow10Tab)
    {ta tb : Nat} {pa pb : Value} (hca : w.cell? ⟨ga, 0, none⟩ = some (.iface ta pa)) (hcb : w.cell? ⟨gb, 0, none⟩ = some (.iface tb pb)) (hpa : PtrV pa) (hpb : PtrV pb) {r : Go.Reach} {base n : Nat} {ts : List TypeId} {tys : List Ty} {args : Array Value} {ds : List (DataW HT)} {ps : List MemPlace}
    (ht : tysOf P n ts = some tys) (hv : ∀ (j : Nat) t v, ts[j]? = some t → args.toList[j]? = some v → Value.okWide P w r base t v) (hd : DataW.TrodAll enc P w 0 (fun _ => true) true ts args.toList ds ps)
    (hlaw : ∀ va vb xs, Dt.hasL tys xs → wpF pr af (Dt.args xs (hGE G m T ga gb (.ifc ta va) (.ifc tb vb))).1 (Dt.args xs (hGE G m T ga gb (.ifc ta va) (.ifc tb vb))).2 (fun v _ => v = .b true)) : Go.Calls P f args w fun E w' => E = .returned (.bool true) ∧ Go.RowKit.Below w.heap.size w w' := by
  obtain ⟨xs, hxs, hl⟩ := args_laid ht hv hd
  obtain ⟨e, va, vb, hs, hr⟩ := sim_GE hgl hglT hgla hglb hname hc htab hca hcb hpa hpb
  obtain ⟨e', _, hvs, s, hro⟩ := hl _ _ _ _ hs hr
  obtain ⟨k, v, h', hrun, hv1⟩ := runs_of_wpF hx hf (hlaw va vb xs hxs)
  have := calls_of_run hp hx hrun hvs s hro
  refine this.mono ?_
  rintro E w' ⟨u, e2, rfl, hu, hb⟩
  rw [hv1] at hu
  cases hu
  exact ⟨rfl, hb⟩
end Am
