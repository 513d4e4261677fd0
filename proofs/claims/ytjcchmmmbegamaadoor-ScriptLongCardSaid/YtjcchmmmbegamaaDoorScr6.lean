/- Script texts: fields written, in the program and in the document. -/
import Derived.Test.YtjcchmmmbegamaaDoorAmJoin
import Derived.Test.YtjcchmmmbegamaaDoorScr5
namespace Am
set_option linter.unusedVariables false
set_option linter.unusedSimpArgs false
set_option maxRecDepth 20000
set_option maxHeartbeats 4000000
variable {pr : Prog}

/-- How much fields hold. -/
def totF (fs : List Fd) : Nat := (fs.map fun f => f.n.length + f.v.length + 1).sum
theorem fieldT_len (f : Fd) : (fieldT f).length ≤ 3 * (f.n.length + f.v.length) + 6 := by
  have h1 := tx_len f.n
  have h2 := tx_len f.v
  unfold fieldT
  simp only [List.length_append, List.length_cons]
  split <;> simp <;> omega
theorem tails_len : ∀ r : List Fd, ((r.map fun x => 44 :: fieldT x).flatten).length ≤ 7 * totF r
  | [] => by simp
  | f :: r => by
    have h1 := tails_len r
    have h2 := fieldT_len f
    simp only [List.map_cons, List.flatten_cons, List.length_append, List.length_cons, totF, List.sum_cons] at h1 ⊢
    omega
theorem fF_len (fs : List Fd) : (fF fs).length ≤ 7 * totF fs + 1 := by
  cases fs with
  | nil => simp [fF]
  | cons f r =>
    have h1 := tails_len r
    have h2 := fieldT_len f
    simp only [fF, totF, List.length_append, List.map_cons, List.sum_cons] at h1 ⊢
    omega
theorem totF_mem {fs : List Fd} {f : Fd} (h : f ∈ fs) : f.n.length + f.v.length + 1 ≤ totF fs := by
  unfold totF
  induction fs with
  | nil => simp at h
  | cons g r ih =>
    simp only [List.map_cons, List.sum_cons]
    rcases List.mem_cons.1 h with rfl | h
    · omega
    · have := ih h; omega
theorem totF_len (fs : List Fd) : fs.length ≤ totF fs := by
  unfold totF
  induction fs with
  | nil => simp
  | cons g r ih => simp only [List.map_cons, List.sum_cons, List.length_cons]; omega
theorem joinS_fields (f : Fd) (r : List Fd) : joinS ((f :: r).map fieldT) [44] = fF (f :: r) := by
  simp [joinS, fF, List.map_map, Function.comp_def]
theorem strsOf_rows : ∀ xs : List (List UInt8), strsOf (xs.map sRow) = some xs
  | [] => rfl
  | x :: r => by
    show (strsOf (r.map sRow)).map (x :: ·) = _
    rw [strsOf_rows r]; rfl
theorem xJoin_rows {h0 g : H} {a : Option (Nat × Nat)} {n : Nat} {ex : Bool} {xs : List (List UInt8)} {sep : List UInt8} (o : OutR h0 g 1 a n ex (xs.map sRow)) (hne : xs ≠ []) (hn : xs.length ≤ 140737488355328) (hl : (joinS xs sep).length ≤ 281474976710656) :
    xJoin [.sl a n n ex, .s sep] g = some (.s (joinS xs sep), g) := by
  have hnl := o.len
  rw [List.length_map] at hnl
  have h0 : ¬ n = 0 := by rw [hnl]; exact fun hh => hne (List.eq_nil_of_length_eq_zero hh)
  rcases o.is with ⟨_, h2, _⟩ | ⟨b, rfl, rfl, h3, h4, h5, h6⟩
  · exact absurd h2 h0
  · unfold xJoin
    simp only
    rw [if_neg h0]
    simp only [h5, List.drop_zero]
    rw [show (xs.map sRow).take n = xs.map sRow from List.take_of_length_le (by rw [List.length_map]; omega), strsOf_rows]
    simp only
    rw [if_pos ⟨hnl.symm, by omega, hl⟩]

def FldLoop (h : H) (fs : List Fd) (x : V) (m : Nat) (t : Tm) (g : H) : Prop :=
  ∃ i a n ex, m = fs.length - i ∧ i ≤ fs.length ∧ t.v 12 = .i .i64 (i : Nat) ∧ t.v 11 = .i .i64 fs.length ∧ t.v 10 = x ∧ t.v 3 = .sl a n n ex ∧ OutR h g 1 a n ex ((fs.take i).map fun f => sRow (fieldT f))
theorem fieldsP_wp {kt kj : Nat} (ht : pr.ext kt = some gTx2) (hj : pr.ext kj = some xJoin)
    {h : H} {p : Option (Nat × Nat)} {n c : Nat} {ex0 : Bool} {fs : List Fd} (hr : rowsIn h 3 p n (fs.map Fd.row)) (htot : totF fs ≤ 1000000) :
    wpF pr (c_script_Fields kt kj) [.sl p n c ex0] h (fun v g => v = .s (fF fs) ∧ Kept h g) := by
  obtain ⟨hlen, hrow⟩ := hr
  rw [List.length_map] at hlen
  subst hlen
  have htl := totF_len fs
  unfold wpF c_script_Fields
  refine ⟨by simp, ?_⟩
  have hc0 := @wpCall_ext pr kt gTx2 ht
  have hc1 := @wpCall_ext pr kj xJoin hj
  by_cases h0 : (fs.length : Int) = 0
  · have : fs = [] := List.eq_nil_of_length_eq_zero (by omega)
    subst this
    simp only [↓STEP, SB, looked, behind, lookOk, AAct.kind, AOp.kind, wpRes, evRes, resV, AOp.ev, bin, binI, binS, shiftI, eqV, un, bound, boundO, fill, fillRows, aggOf, keyEq, findKey, putKey, V.cells, V.flat, byteOf, bytesOf, rdOf, H.wr, H.kOf, splice, isYl, ↓reduceIte, Nat.reduceEqDiff, Nat.reduceLeDiff, Nat.reduceLT, Nat.reduceAdd, Nat.reduceSub, Nat.reduceMul, Int.reduceLT, Int.reduceLE, Int.reduceEq, Int.reduceAdd, Int.reduceSub, Int.reduceMul, Int.reduceNeg, Int.reduceToNat, reduceCtorEq, List.length_nil, Int.ofNat_eq_natCast, Int.natCast_zero]
    exact ⟨rfl, Kept.refl⟩
  · obtain ⟨b, r, all, ro, rfl, hbn, hg, hat⟩ := hrow.resolve_left (by omega)
    simp only [↓STEP, SB, looked, behind, lookOk, AAct.kind, AOp.kind, wpRes, evRes, resV, AOp.ev, bin, binI, binS, shiftI, eqV, un, bound, boundO, fill, fillRows, aggOf, keyEq, findKey, putKey, V.cells, V.flat, byteOf, bytesOf, rdOf, H.wr, H.kOf, splice, isYl, ↓reduceIte, Nat.reduceEqDiff, Nat.reduceLeDiff, Nat.reduceLT, Nat.reduceAdd, Nat.reduceSub, Nat.reduceMul, Int.reduceLT, Int.reduceLE, Int.reduceEq, Int.reduceAdd, Int.reduceSub, Int.reduceMul, Int.reduceNeg, Int.reduceToNat, reduceCtorEq, h0]
    refine wpA_loop_inv (FldLoop h fs (.sl (some (b, r)) fs.length c ex0)) ?_ (m := fs.length) ?_
    · rintro m t g ⟨i, a, n, ex, rfl, hi, e12, e11, e10, e3, o⟩
      have hnl := o.len
      rw [List.length_map, List.length_take] at hnl
      by_cases hlt : (i : Int) < fs.length
      · have hil : i < fs.length := by omega
        have h1 : all[r + i]? = some fs[i].row := hat i _ (by rw [List.getElem?_map, List.getElem?_eq_getElem hil]; rfl)
        have hgg : g.get b = some (.rows 3 all ro) := by rw [o.kept.2 b hbn]; exact hg
        have hbg : b < g.nx := Nat.lt_of_lt_of_le hbn o.kept.1
        have hwr : Go.IntKind.wrap .i64 ((i : Int) + 1) = (i : Int) + 1 := wrap_i64 (by omega) (by omega)
        have hmem := totF_mem (List.getElem_mem hil)
        have htake : (fs.take (i + 1)).map (fun f => sRow (fieldT f)) = (fs.take i).map (fun f => sRow (fieldT f)) ++ [sRow (fieldT fs[i])] := by
          rw [List.take_add_one, List.getElem?_eq_getElem hil, List.map_append]; rfl
        have hft : ∀ f, fs[i] = f → fieldT f = fieldT fs[i] := fun f hf => by rw [hf]
        generalize fs[i] = f at *
        obtain ⟨fn, fv, fz⟩ := f
        simp only [Fd.row] at h1 hmem
        have l1 := tx_len fn
        have l2 := tx_len fv
        have x1 : ∀ g', gTx2 [.s fn] g' = some (.s (txF fn), g') := fun g' => gTx2_eq (by omega)
        have x2 : ∀ g', gTx2 [.s fv] g' = some (.s (txF fv), g') := fun g' => gTx2_eq (by omega)
        have b1 : (txF fn).length + 1 ≤ 140737488355328 := by omega
        have b2 : (txF fn ++ [61]).length + (txF fv).length ≤ 140737488355328 := by simp; omega
        have b3 : (txF fn ++ [61] ++ txF fv).length + 1 ≤ 140737488355328 := by simp; omega
        cases fz with
        | true =>
          have hk : Kept g ((g.push (.rows 3 [[.s [], .s [], .b false]] false)).set g.nx (.rows 3 [[.s fn, .s fv, .b true]] false)) := by (repeat (first | exact Kept.refl | apply Kept.push | refine Kept.kill ?_ (by omega) | refine Kept.set ?_ (by omega)))
          have hfT : fieldT ⟨fn, fv, true⟩ = (txF fn ++ [61] ++ txF fv ++ [33]) := by simp [fieldT]
          obtain ⟨b', g', e1, o'⟩ := (o.keepR hk).app1 (.rows 1 [[.s (txF fn ++ [61] ++ txF fv ++ [33])]] false) 16 [.s (txF fn ++ [61] ++ txF fv ++ [33])] (by omega) (by omega) (by omega)
          have hr1 : (((g.push (.rows 3 [[.s [], .s [], .b false]] false)).set g.nx (.rows 3 [[.s fn, .s fv, .b true]] false)).push (.rows 1 [[.s (txF fn ++ [61] ++ txF fv ++ [33])]] false)).rseg 1 (some (g.nx + 1, 0)) 1 = some [[.s (txF fn ++ [61] ++ txF fv ++ [33])]] := rseg_tmp1 _ 1 [.s (txF fn ++ [61] ++ txF fv ++ [33])]
          rw [show [V.s (txF fn ++ [61] ++ txF fv ++ [33])] = sRow (fieldT ⟨fn, fv, true⟩) by rw [hfT]; rfl] at o'
          rw [← htake] at o'
          simp only [↓STEP, SB, looked, behind, lookOk, AAct.kind, AOp.kind, wpRes, evRes, resV, AOp.ev, bin, binI, binS, shiftI, eqV, un, bound, boundO, fill, fillRows, aggOf, keyEq, findKey, putKey, V.cells, V.flat, byteOf, bytesOf, rdOf, H.wr, H.kOf, splice, isYl, ↓reduceIte, Nat.reduceEqDiff, Nat.reduceLeDiff, Nat.reduceLT, Nat.reduceAdd, Nat.reduceSub, Nat.reduceMul, Int.reduceLT, Int.reduceLE, Int.reduceEq, Int.reduceAdd, Int.reduceSub, Int.reduceMul, Int.reduceNeg, Int.reduceToNat, reduceCtorEq, e12, e11, e10, e3, hlt, hgg, h1, hc0, x1, x2, b1, b2, b3, H.get_set, hwr, hr1, e1]
          exact ⟨_, by omega, i + 1, _, _, _, rfl, by omega, by simp [v_pd, v_pd0], by simp [v_pd, v_pd0, e11], by simp [v_pd, v_pd0, e10], by simp [v_pd, v_pd0]; try exact ⟨rfl, rfl, rfl⟩, o'⟩
        | false =>
          have hk : Kept g ((g.push (.rows 3 [[.s [], .s [], .b false]] false)).set g.nx (.rows 3 [[.s fn, .s fv, .b false]] false)) := by (repeat (first | exact Kept.refl | apply Kept.push | refine Kept.kill ?_ (by omega) | refine Kept.set ?_ (by omega)))
          have hfT : fieldT ⟨fn, fv, false⟩ = (txF fn ++ [61] ++ txF fv) := by simp [fieldT]
          obtain ⟨b', g', e1, o'⟩ := (o.keepR hk).app1 (.rows 1 [[.s (txF fn ++ [61] ++ txF fv)]] false) 16 [.s (txF fn ++ [61] ++ txF fv)] (by omega) (by omega) (by omega)
          have hr1 : (((g.push (.rows 3 [[.s [], .s [], .b false]] false)).set g.nx (.rows 3 [[.s fn, .s fv, .b false]] false)).push (.rows 1 [[.s (txF fn ++ [61] ++ txF fv)]] false)).rseg 1 (some (g.nx + 1, 0)) 1 = some [[.s (txF fn ++ [61] ++ txF fv)]] := rseg_tmp1 _ 1 [.s (txF fn ++ [61] ++ txF fv)]
          rw [show [V.s (txF fn ++ [61] ++ txF fv)] = sRow (fieldT ⟨fn, fv, false⟩) by rw [hfT]; rfl] at o'
          rw [← htake] at o'
          simp only [↓STEP, SB, looked, behind, lookOk, AAct.kind, AOp.kind, wpRes, evRes, resV, AOp.ev, bin, binI, binS, shiftI, eqV, un, bound, boundO, fill, fillRows, aggOf, keyEq, findKey, putKey, V.cells, V.flat, byteOf, bytesOf, rdOf, H.wr, H.kOf, splice, isYl, ↓reduceIte, Nat.reduceEqDiff, Nat.reduceLeDiff, Nat.reduceLT, Nat.reduceAdd, Nat.reduceSub, Nat.reduceMul, Int.reduceLT, Int.reduceLE, Int.reduceEq, Int.reduceAdd, Int.reduceSub, Int.reduceMul, Int.reduceNeg, Int.reduceToNat, reduceCtorEq, e12, e11, e10, e3, hlt, hgg, h1, hc0, x1, x2, b1, b2, b3, H.get_set, hwr, hr1, e1]
          exact ⟨_, by omega, i + 1, _, _, _, rfl, by omega, by simp [v_pd, v_pd0], by simp [v_pd, v_pd0, e11], by simp [v_pd, v_pd0, e10], by simp [v_pd, v_pd0]; try exact ⟨rfl, rfl, rfl⟩, o'⟩
      · have hil : i = fs.length := by omega
        subst hil
        rw [List.take_length] at o
        have hmap : fs.map (fun f => sRow (fieldT f)) = (fs.map fieldT).map sRow := by rw [List.map_map]; rfl
        rw [hmap] at o
        obtain ⟨f0, r0, rfl⟩ : ∃ f0 r0, fs = f0 :: r0 := by
          cases fs with
          | nil => simp at h0
          | cons f0 r0 => exact ⟨f0, r0, rfl⟩
        have hfl := fF_len (f0 :: r0)
        have hx := xJoin_rows (sep := [44]) o (by simp) (by rw [List.length_map]; omega) (by rw [joinS_fields]; omega)
        rw [joinS_fields] at hx
        simp only [↓STEP, SB, looked, behind, lookOk, AAct.kind, AOp.kind, wpRes, evRes, resV, AOp.ev, bin, binI, binS, shiftI, eqV, un, bound, boundO, fill, fillRows, aggOf, keyEq, findKey, putKey, V.cells, V.flat, byteOf, bytesOf, rdOf, H.wr, H.kOf, splice, isYl, ↓reduceIte, Nat.reduceEqDiff, Nat.reduceLeDiff, Nat.reduceLT, Nat.reduceAdd, Nat.reduceSub, Nat.reduceMul, Int.reduceLT, Int.reduceLE, Int.reduceEq, Int.reduceAdd, Int.reduceSub, Int.reduceMul, Int.reduceNeg, Int.reduceToNat, reduceCtorEq, e12, e11, e10, e3, hlt, hc1, hx]
        exact o.kept
    · exact ⟨0, none, 0, true, rfl, Nat.zero_le _, by simp [v_pd], by simp [v_pd], by simp [v_pd], by simp [v_pd], OutR.nil h 1⟩
/-! ### In the document -/
def jF (fs : List Fd) : List UInt8 := joinS (fs.map fieldT) [44]
theorem jF_len (fs : List Fd) : (jF fs).length ≤ 7 * totF fs + 1 := by
  cases fs with
  | nil => simp [jF, joinS]
  | cons f r =>
    have := fF_len (f :: r)
    unfold jF
    rw [joinS_fields]; exact this
theorem joinS_snoc (sep : List UInt8) : ∀ (xs : List (List UInt8)) (y : List UInt8), joinS (xs ++ [y]) sep = joinS xs sep ++ ((if xs = [] then [] else sep) ++ y)
  | [], y => by simp [joinS]
  | x :: r, y => by simp [joinS]
theorem jF_take {fs : List Fd} {i : Nat} (hi : i < fs.length) : jF (fs.take (i + 1)) = jF (fs.take i) ++ ((if i = 0 then [] else [44]) ++ fieldT fs[i]) := by
  unfold jF
  rw [List.take_add_one, List.getElem?_eq_getElem hi, List.map_append]
  show joinS (_ ++ [fieldT fs[i]]) [44] = _
  rw [joinS_snoc]
  congr 2
  by_cases h0 : i = 0
  · subst h0; simp
  · rw [if_neg h0, if_neg]
    intro hh
    rw [List.map_eq_nil_iff, List.take_eq_nil_iff] at hh
    rcases hh with rfl | rfl
    · exact h0 rfl
    · simp at hi
theorem totF_take (fs : List Fd) (i : Nat) : totF (fs.take i) ≤ totF fs := by
  unfold totF
  rw [List.map_take]
  generalize fs.map (fun f => f.n.length + f.v.length + 1) = l
  induction l generalizing i with
  | nil => simp
  | cons a l ih =>
    cases i with
    | zero => simp
    | succ i => simp only [List.take_succ_cons, List.sum_cons]; have := ih i; omega
def FRLoop (h : H) (fs : List Fd) (x : V) (m : Nat) (t : Tm) (g : H) : Prop :=
  ∃ i a n c ex, m = fs.length - i ∧ i ≤ fs.length ∧ t.v 4 = .i .i64 (i : Nat) ∧ t.v 0 = x ∧ t.v 3 = .sl a n c ex ∧ OutB h g a n c (jF (fs.take i))
theorem fieldsR_wp {kt : Nat} (ht : pr.ext kt = some gTx2)
    {h : H} {p : Option (Nat × Nat)} {n c : Nat} {ex0 : Bool} {fs : List Fd} (hr : rowsIn h 3 p n (fs.map Fd.row)) (htot : totF fs ≤ 1000000) :
    wpF pr (c_isthmusref23_Fields kt) [.sl p n c ex0] h (fun v g => v = .s (fF fs) ∧ Kept h g) := by
  obtain ⟨hlen, hrow⟩ := hr
  rw [List.length_map] at hlen
  subst hlen
  have htl := totF_len fs
  unfold wpF c_isthmusref23_Fields
  refine ⟨by simp, ?_⟩
  have hc0 := @wpCall_ext pr kt gTx2 ht
  by_cases h0 : (fs.length : Int) = 0
  · have : fs = [] := List.eq_nil_of_length_eq_zero (by omega)
    subst this
    simp only [↓STEP, SB, looked, behind, lookOk, AAct.kind, AOp.kind, wpRes, evRes, resV, AOp.ev, bin, binI, binS, shiftI, eqV, un, bound, boundO, fill, fillRows, aggOf, keyEq, findKey, putKey, V.cells, V.flat, byteOf, bytesOf, rdOf, H.wr, H.kOf, splice, isYl, ↓reduceIte, Nat.reduceEqDiff, Nat.reduceLeDiff, Nat.reduceLT, Nat.reduceAdd, Nat.reduceSub, Nat.reduceMul, Int.reduceLT, Int.reduceLE, Int.reduceEq, Int.reduceAdd, Int.reduceSub, Int.reduceMul, Int.reduceNeg, Int.reduceToNat, reduceCtorEq, List.length_nil, Int.ofNat_eq_natCast, Int.natCast_zero]
    exact ⟨rfl, Kept.refl⟩
  · obtain ⟨b, r, all, ro, rfl, hbn, hg, hat⟩ := hrow.resolve_left (by omega)
    simp only [↓STEP, SB, looked, behind, lookOk, AAct.kind, AOp.kind, wpRes, evRes, resV, AOp.ev, bin, binI, binS, shiftI, eqV, un, bound, boundO, fill, fillRows, aggOf, keyEq, findKey, putKey, V.cells, V.flat, byteOf, bytesOf, rdOf, H.wr, H.kOf, splice, isYl, ↓reduceIte, Nat.reduceEqDiff, Nat.reduceLeDiff, Nat.reduceLT, Nat.reduceAdd, Nat.reduceSub, Nat.reduceMul, Int.reduceLT, Int.reduceLE, Int.reduceEq, Int.reduceAdd, Int.reduceSub, Int.reduceMul, Int.reduceNeg, Int.reduceToNat, reduceCtorEq, h0]
    refine wpA_loop_inv (FRLoop h fs (.sl (some (b, r)) fs.length c ex0)) ?_ (m := fs.length) ?_
    · rintro m t g ⟨i, a, n, c, ex, rfl, hi, e4, e0, e3, o⟩
      have hnl := o.sl.1
      have hjl := jF_len (fs.take i)
      have htt := totF_take fs i
      by_cases hlt : (i : Int) < fs.length
      · have hil : i < fs.length := by omega
        have h1 : all[r + i]? = some fs[i].row := hat i _ (by rw [List.getElem?_map, List.getElem?_eq_getElem hil]; rfl)
        have hgg : g.get b = some (.rows 3 all ro) := by rw [o.kept.2 b hbn]; exact hg
        have hbg : b < g.nx := Nat.lt_of_lt_of_le hbn o.kept.1
        have hwr : Go.IntKind.wrap .i64 ((i : Int) + 1) = (i : Int) + 1 := wrap_i64 (by omega) (by omega)
        have hmem := totF_mem (List.getElem_mem hil)
        have htake := jF_take hil
        generalize fs[i] = f at *
        obtain ⟨fn, fv, fz⟩ := f
        simp only [Fd.row] at h1 hmem
        have l1 := tx_len fn
        have l2 := tx_len fv
        have x1 : ∀ g', gTx2 [.s fn] g' = some (.s (txF fn), g') := fun g' => gTx2_eq (by omega)
        have x2 : ∀ g', gTx2 [.s fv] g' = some (.s (txF fv), g') := fun g' => gTx2_eq (by omega)
        have u44 : UInt8.ofNat 44 = 44 := rfl
        have u61 : UInt8.ofNat 61 = 61 := rfl
        have u33 : UInt8.ofNat 33 = 33 := rfl
        by_cases hpos : (0 : Int) < (i : Int)
        · have hsep : ¬ i = 0 := by omega
          cases fz with
          | true =>
            obtain ⟨a0, c0, ex0', g0, q0, o0⟩ := o.app1 (.bytes [44] false) ex 44 (by omega)
            generalize hm0 : n + 1 = m0 at q0 o0
            obtain ⟨a1, c1, ex1, g1, q1, o1⟩ := o0.app ex0' (txF fn) (by omega)
            generalize hm1 : m0 + (txF fn).length = m1 at q1 o1
            obtain ⟨a2, c2, ex2, g2, q2, o2⟩ := o1.app1 (.bytes [61] false) ex1 61 (by omega)
            generalize hm2 : m1 + 1 = m2 at q2 o2
            obtain ⟨a3, c3, ex3, g3, q3, o3⟩ := o2.app ex2 (txF fv) (by omega)
            generalize hm3 : m2 + (txF fv).length = m3 at q3 o3
            obtain ⟨a4, c4, ex4, g4, q4, o4⟩ := o3.app1 (.bytes [33] false) ex3 33 (by omega)
            generalize hm4 : m3 + 1 = m4 at q4 o4
            have hg0 : g0.get b = some (.rows 3 all ro) := by rw [o0.kept.2 b hbn]; exact hg
            have hg1 : g1.get b = some (.rows 3 all ro) := by rw [o1.kept.2 b hbn]; exact hg
            have hg2 : g2.get b = some (.rows 3 all ro) := by rw [o2.kept.2 b hbn]; exact hg
            have hg3 : g3.get b = some (.rows 3 all ro) := by rw [o3.kept.2 b hbn]; exact hg
            have hb1 : ∀ X : Blk, (g.push X).get b = some (.rows 3 all ro) := fun X => by rw [H.get_push, if_neg (by omega)]; exact hgg
            simp only [↓STEP, SB, looked, behind, lookOk, AAct.kind, AOp.kind, wpRes, evRes, resV, AOp.ev, bin, binI, binS, shiftI, eqV, un, bound, boundO, fill, fillRows, aggOf, keyEq, findKey, putKey, V.cells, V.flat, byteOf, bytesOf, rdOf, H.wr, H.kOf, splice, isYl, ↓reduceIte, Nat.reduceEqDiff, Nat.reduceLeDiff, Nat.reduceLT, Nat.reduceAdd, Nat.reduceSub, Nat.reduceMul, Int.reduceLT, Int.reduceLE, Int.reduceEq, Int.reduceAdd, Int.reduceSub, Int.reduceMul, Int.reduceNeg, Int.reduceToNat, reduceCtorEq, e4, e3, e0, hlt, hpos, hgg, hb1, h1, hc0, x1, x2, hwr, List.flatten_cons, List.flatten_nil, bseg_tmp1, u44, u61, u33, q0, q1, q2, q3, q4, hg0, hg1, hg2, hg3]
            refine ⟨_, by omega, i + 1, _, _, _, _, rfl, by omega, by simp [v_pd, v_pd0], by simp [v_pd, v_pd0, e0], by simp [v_pd, v_pd0]; try exact ⟨rfl, rfl, rfl, rfl⟩, ?_⟩
            rw [htake]
            simpa [fieldT, hsep] using o4
          | false =>
            obtain ⟨a0, c0, ex0', g0, q0, o0⟩ := o.app1 (.bytes [44] false) ex 44 (by omega)
            generalize hm0 : n + 1 = m0 at q0 o0
            obtain ⟨a1, c1, ex1, g1, q1, o1⟩ := o0.app ex0' (txF fn) (by omega)
            generalize hm1 : m0 + (txF fn).length = m1 at q1 o1
            obtain ⟨a2, c2, ex2, g2, q2, o2⟩ := o1.app1 (.bytes [61] false) ex1 61 (by omega)
            generalize hm2 : m1 + 1 = m2 at q2 o2
            obtain ⟨a3, c3, ex3, g3, q3, o3⟩ := o2.app ex2 (txF fv) (by omega)
            generalize hm3 : m2 + (txF fv).length = m3 at q3 o3
            have hg0 : g0.get b = some (.rows 3 all ro) := by rw [o0.kept.2 b hbn]; exact hg
            have hg1 : g1.get b = some (.rows 3 all ro) := by rw [o1.kept.2 b hbn]; exact hg
            have hg2 : g2.get b = some (.rows 3 all ro) := by rw [o2.kept.2 b hbn]; exact hg
            have hg3 : g3.get b = some (.rows 3 all ro) := by rw [o3.kept.2 b hbn]; exact hg
            have hb1 : ∀ X : Blk, (g.push X).get b = some (.rows 3 all ro) := fun X => by rw [H.get_push, if_neg (by omega)]; exact hgg
            simp only [↓STEP, SB, looked, behind, lookOk, AAct.kind, AOp.kind, wpRes, evRes, resV, AOp.ev, bin, binI, binS, shiftI, eqV, un, bound, boundO, fill, fillRows, aggOf, keyEq, findKey, putKey, V.cells, V.flat, byteOf, bytesOf, rdOf, H.wr, H.kOf, splice, isYl, ↓reduceIte, Nat.reduceEqDiff, Nat.reduceLeDiff, Nat.reduceLT, Nat.reduceAdd, Nat.reduceSub, Nat.reduceMul, Int.reduceLT, Int.reduceLE, Int.reduceEq, Int.reduceAdd, Int.reduceSub, Int.reduceMul, Int.reduceNeg, Int.reduceToNat, reduceCtorEq, e4, e3, e0, hlt, hpos, hgg, hb1, h1, hc0, x1, x2, hwr, List.flatten_cons, List.flatten_nil, bseg_tmp1, u44, u61, u33, q0, q1, q2, q3, hg0, hg1, hg2, hg3]
            refine ⟨_, by omega, i + 1, _, _, _, _, rfl, by omega, by simp [v_pd, v_pd0], by simp [v_pd, v_pd0, e0], by simp [v_pd, v_pd0]; try exact ⟨rfl, rfl, rfl, rfl⟩, ?_⟩
            rw [htake]
            simpa [fieldT, hsep] using o3
        · have hsep : i = 0 := by omega
          cases fz with
          | true =>
            obtain ⟨a1, c1, ex1, g1, q1, o1⟩ := o.app ex (txF fn) (by omega)
            generalize hm1 : n + (txF fn).length = m1 at q1 o1
            obtain ⟨a2, c2, ex2, g2, q2, o2⟩ := o1.app1 (.bytes [61] false) ex1 61 (by omega)
            generalize hm2 : m1 + 1 = m2 at q2 o2
            obtain ⟨a3, c3, ex3, g3, q3, o3⟩ := o2.app ex2 (txF fv) (by omega)
            generalize hm3 : m2 + (txF fv).length = m3 at q3 o3
            obtain ⟨a4, c4, ex4, g4, q4, o4⟩ := o3.app1 (.bytes [33] false) ex3 33 (by omega)
            generalize hm4 : m3 + 1 = m4 at q4 o4
            have hg1 : g1.get b = some (.rows 3 all ro) := by rw [o1.kept.2 b hbn]; exact hg
            have hg2 : g2.get b = some (.rows 3 all ro) := by rw [o2.kept.2 b hbn]; exact hg
            have hg3 : g3.get b = some (.rows 3 all ro) := by rw [o3.kept.2 b hbn]; exact hg
            have hb1 : ∀ X : Blk, (g.push X).get b = some (.rows 3 all ro) := fun X => by rw [H.get_push, if_neg (by omega)]; exact hgg
            simp only [↓STEP, SB, looked, behind, lookOk, AAct.kind, AOp.kind, wpRes, evRes, resV, AOp.ev, bin, binI, binS, shiftI, eqV, un, bound, boundO, fill, fillRows, aggOf, keyEq, findKey, putKey, V.cells, V.flat, byteOf, bytesOf, rdOf, H.wr, H.kOf, splice, isYl, ↓reduceIte, Nat.reduceEqDiff, Nat.reduceLeDiff, Nat.reduceLT, Nat.reduceAdd, Nat.reduceSub, Nat.reduceMul, Int.reduceLT, Int.reduceLE, Int.reduceEq, Int.reduceAdd, Int.reduceSub, Int.reduceMul, Int.reduceNeg, Int.reduceToNat, reduceCtorEq, e4, e3, e0, hlt, hpos, hgg, hb1, h1, hc0, x1, x2, hwr, List.flatten_cons, List.flatten_nil, bseg_tmp1, u44, u61, u33, q1, q2, q3, q4, hg1, hg2, hg3]
            refine ⟨_, by omega, i + 1, _, _, _, _, rfl, by omega, by simp [v_pd, v_pd0], by simp [v_pd, v_pd0, e0], by simp [v_pd, v_pd0]; try exact ⟨rfl, rfl, rfl, rfl⟩, ?_⟩
            rw [htake]
            simpa [fieldT, hsep] using o4
          | false =>
            obtain ⟨a1, c1, ex1, g1, q1, o1⟩ := o.app ex (txF fn) (by omega)
            generalize hm1 : n + (txF fn).length = m1 at q1 o1
            obtain ⟨a2, c2, ex2, g2, q2, o2⟩ := o1.app1 (.bytes [61] false) ex1 61 (by omega)
            generalize hm2 : m1 + 1 = m2 at q2 o2
            obtain ⟨a3, c3, ex3, g3, q3, o3⟩ := o2.app ex2 (txF fv) (by omega)
            generalize hm3 : m2 + (txF fv).length = m3 at q3 o3
            have hg1 : g1.get b = some (.rows 3 all ro) := by rw [o1.kept.2 b hbn]; exact hg
            have hg2 : g2.get b = some (.rows 3 all ro) := by rw [o2.kept.2 b hbn]; exact hg
            have hg3 : g3.get b = some (.rows 3 all ro) := by rw [o3.kept.2 b hbn]; exact hg
            have hb1 : ∀ X : Blk, (g.push X).get b = some (.rows 3 all ro) := fun X => by rw [H.get_push, if_neg (by omega)]; exact hgg
            simp only [↓STEP, SB, looked, behind, lookOk, AAct.kind, AOp.kind, wpRes, evRes, resV, AOp.ev, bin, binI, binS, shiftI, eqV, un, bound, boundO, fill, fillRows, aggOf, keyEq, findKey, putKey, V.cells, V.flat, byteOf, bytesOf, rdOf, H.wr, H.kOf, splice, isYl, ↓reduceIte, Nat.reduceEqDiff, Nat.reduceLeDiff, Nat.reduceLT, Nat.reduceAdd, Nat.reduceSub, Nat.reduceMul, Int.reduceLT, Int.reduceLE, Int.reduceEq, Int.reduceAdd, Int.reduceSub, Int.reduceMul, Int.reduceNeg, Int.reduceToNat, reduceCtorEq, e4, e3, e0, hlt, hpos, hgg, hb1, h1, hc0, x1, x2, hwr, List.flatten_cons, List.flatten_nil, bseg_tmp1, u44, u61, u33, q1, q2, q3, hg1, hg2, hg3]
            refine ⟨_, by omega, i + 1, _, _, _, _, rfl, by omega, by simp [v_pd, v_pd0], by simp [v_pd, v_pd0, e0], by simp [v_pd, v_pd0]; try exact ⟨rfl, rfl, rfl, rfl⟩, ?_⟩
            rw [htake]
            simpa [fieldT, hsep] using o3
      · have hil : i = fs.length := by omega
        subst hil
        rw [List.take_length] at o
        obtain ⟨f0, r0, rfl⟩ : ∃ f0 r0, fs = f0 :: r0 := by
          cases fs with
          | nil => simp at h0
          | cons f0 r0 => exact ⟨f0, r0, rfl⟩
        have hj : jF (f0 :: r0) = fF (f0 :: r0) := joinS_fields f0 r0
        rw [hj] at o
        simp only [↓STEP, SB, looked, behind, lookOk, AAct.kind, AOp.kind, wpRes, evRes, resV, AOp.ev, bin, binI, binS, shiftI, eqV, un, bound, boundO, fill, fillRows, aggOf, keyEq, findKey, putKey, V.cells, V.flat, byteOf, bytesOf, rdOf, H.wr, H.kOf, splice, isYl, ↓reduceIte, Nat.reduceEqDiff, Nat.reduceLeDiff, Nat.reduceLT, Nat.reduceAdd, Nat.reduceSub, Nat.reduceMul, Int.reduceLT, Int.reduceLE, Int.reduceEq, Int.reduceAdd, Int.reduceSub, Int.reduceMul, Int.reduceNeg, Int.reduceToNat, reduceCtorEq, e4, e3, e0, hlt, o.sl.bseg]
        exact o.kept
    · exact ⟨0, none, 0, 0, true, rfl, Nat.zero_le _, by simp [v_pd], by simp [v_pd, v_args_cons], by simp [v_pd], OutB.nil h⟩
/-! ### The same, as rules -/
theorem wpF_mono {af : AFunc} {args : List V} {h : H} {K K' : V → H → Prop} (hw : wpF pr af args h K) (hk : ∀ v g, K v g → K' v g) : wpF pr af args h K' := by
  refine ⟨hw.1, wpA_mono hw.2 fun e t h' hh => ?_⟩
  cases e with
  | exit id => exact hh.elim
  | normal => obtain ⟨vs, h1, h2⟩ := hh; exact ⟨vs, h1, hk _ _ h2⟩
  | ret => obtain ⟨vs, h1, h2⟩ := hh; exact ⟨vs, h1, hk _ _ h2⟩
def fdOf : List V → Option Fd
  | [.s n, .s v, .b z] => some ⟨n, v, z⟩
  | _ => none
def fdsOf : List (List V) → Option (List Fd)
  | [] => some []
  | r :: rs =>
    match fdOf r, fdsOf rs with
    | some f, some fs => some (f :: fs)
    | _, _ => none
/-- Fields that are read. -/
def rdF (h : H) (p : Option (Nat × Nat)) (n : Nat) : Option (List Fd) :=
  if n = 0 then some [] else
  match p with
  | some (b, r) =>
    match h.get b with
    | some (.rows 3 all _) => if r + n ≤ all.length ∧ b < h.nx then fdsOf ((all.drop r).take n) else none
    | _ => none
  | none => none
theorem fdOf_row {row : List V} {f : Fd} (h : fdOf row = some f) : row = f.row := by
  unfold fdOf at h
  split at h
  · cases h; rfl
  · cases h
theorem fdsOf_rows : ∀ (fs : List Fd), fdsOf (fs.map Fd.row) = some fs
  | [] => rfl
  | f :: fs => by
    rw [List.map_cons, fdsOf, fdsOf_rows fs]
    rfl
theorem fdsOf_inv : ∀ {rows : List (List V)} {fs : List Fd}, fdsOf rows = some fs → rows = fs.map Fd.row
  | [], fs, h => by rw [fdsOf] at h; cases h; rfl
  | r :: rs, fs, h => by
    rw [fdsOf] at h
    split at h
    · rename_i f fs' h1 h2
      cases h
      rw [fdOf_row h1, fdsOf_inv h2]; rfl
    · cases h
theorem rdF_in {h : H} {p : Option (Nat × Nat)} {n : Nat} {fs : List Fd} (hr : rdF h p n = some fs) : rowsIn h 3 p n (fs.map Fd.row) := by
  unfold rdF at hr
  split at hr
  · rename_i h0; cases hr; exact ⟨by rw [h0]; rfl, .inl h0⟩
  · rename_i h0
    split at hr
    · rename_i b r
      split at hr
      · rename_i all ro hg
        split at hr
        · rename_i hc
          have e := fdsOf_inv hr
          refine ⟨?_, .inr ⟨b, r, all, ro, rfl, hc.2, hg, fun i row hi => ?_⟩⟩
          · rw [← e, List.length_take, List.length_drop]; omega
          · rw [← e] at hi
            have hin : i < n := by
              have := (List.getElem?_eq_some_iff.1 hi).1
              rw [List.length_take] at this; omega
            rw [List.getElem?_take_of_lt hin, List.getElem?_drop] at hi
            exact hi
        · cases hr
      · cases hr
    · cases hr
theorem rdF_of {h : H} {p : Option (Nat × Nat)} {n : Nat} {fs : List Fd} (hr : rowsIn h 3 p n (fs.map Fd.row)) : rdF h p n = some fs := by
  obtain ⟨hl, hr⟩ := hr
  unfold rdF
  rw [List.length_map] at hl
  by_cases h0 : n = 0
  · have : fs = [] := List.eq_nil_of_length_eq_zero (by omega)
    subst this
    rw [if_pos h0]
  · obtain ⟨b, r, all, ro, rfl, hb, hg, hat⟩ := hr.resolve_left h0
    rw [if_neg h0]
    simp only [hg]
    have hle : r + n ≤ all.length := by
      have h1 : (fs.map Fd.row)[n - 1]? = some ((fs.map Fd.row)[n - 1]'(by rw [List.length_map]; omega)) := List.getElem?_eq_getElem _
      have h2 := (List.getElem?_eq_some_iff.1 (hat _ _ h1)).1
      omega
    rw [if_pos ⟨hle, hb⟩]
    have e : (all.drop r).take n = fs.map Fd.row := by
      apply List.ext_getElem?
      intro i
      by_cases hi : i < n
      · rw [List.getElem?_take_of_lt hi, List.getElem?_drop]
        have h1 : (fs.map Fd.row)[i]? = some ((fs.map Fd.row)[i]'(by rw [List.length_map]; omega)) := List.getElem?_eq_getElem _
        rw [h1]; exact hat _ _ h1
      · rw [List.getElem?_eq_none (by rw [List.length_take]; omega), List.getElem?_eq_none (by rw [List.length_map]; omega)]
    rw [e]; exact fdsOf_rows fs
def gFld (ys : List V) (h : H) : Option (V × H) :=
  match ys with
  | [.sl p n c ex] =>
    match rdF h p n with
    | some fs => if totF fs ≤ 1000000 then some (.s (fF fs), h) else none
    | none => none
  | _ => none
theorem gFld_eq {h : H} {p : Option (Nat × Nat)} {n c : Nat} {ex : Bool} {fs : List Fd} (hr : rowsIn h 3 p n (fs.map Fd.row)) (ht : totF fs ≤ 1000000) : gFld [.sl p n c ex] h = some (.s (fF fs), h) := by
  unfold gFld
  simp only [rdF_of hr]
  rw [if_pos ht]
theorem fieldsP_ok {kt kj : Nat} (ht : pr.ext kt = some gTx2) (hj : pr.ext kj = some xJoin) : OkF pr (c_script_Fields kt kj) gFld := by
  intro ys h v h' hg
  unfold gFld at hg
  split at hg
  case h_2 => cases hg
  rename_i p n c ex
  split at hg
  · rename_i fs hr
    split at hg
    · rename_i htot
      cases hg
      exact wpF_mono (fieldsP_wp ht hj (rdF_in hr) htot) fun v g hv => Abs.out hv.1 rfl hv.2
    · cases hg
  · cases hg
theorem fieldsR_ok {kt : Nat} (ht : pr.ext kt = some gTx2) : OkF pr (c_isthmusref23_Fields kt) gFld := by
  intro ys h v h' hg
  unfold gFld at hg
  split at hg
  case h_2 => cases hg
  rename_i p n c ex
  split at hg
  · rename_i fs hr
    split at hg
    · rename_i htot
      cases hg
      exact wpF_mono (fieldsR_wp ht (rdF_in hr) htot) fun v g hv => Abs.out hv.1 rfl hv.2
    · cases hg
  · cases hg
end Am
