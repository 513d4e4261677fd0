/- Script texts: a line, in the program. -/
import Derived.Test.YtjcchmmmbegamaaDoorScrL
namespace Am
set_option linter.unusedVariables false
set_option linter.unusedSimpArgs false
set_option maxRecDepth 20000
set_option maxHeartbeats 4000000
variable {pr : Prog}

structure OutQ (h0 g : H) (k : Nat) (a : Option (Nat × Nat)) (n : Nat) (out : List (List V)) : Prop where
  kept : Kept h0 g
  len : n = out.length
  is : ∃ b, a = some (b, 0) ∧ h0.nx ≤ b ∧ b < g.nx ∧ g.get b = some (.rows k out false)
theorem OutQ.push {h0 g : H} {k n : Nat} {a : Option (Nat × Nat)} {out : List (List V)} (o : OutQ h0 g k a n out) (x : Blk) : OutQ h0 (g.push x) k a n out := by
  obtain ⟨b, h1, h3, h4, h5⟩ := o.is
  exact ⟨o.kept.push, o.len, b, h1, h3, Nat.lt_succ_of_lt h4, by rw [H.get_push, if_neg (by omega)]; exact h5⟩
theorem OutQ.keep {h0 g g' : H} {k n : Nat} {a : Option (Nat × Nat)} {out : List (List V)} (o : OutQ h0 g k a n out) (hk : Kept g g') : OutQ h0 g' k a n out := by
  obtain ⟨b, h1, h3, h4, h5⟩ := o.is
  exact ⟨o.kept.trans hk, o.len, b, h1, h3, Nat.lt_of_lt_of_le h4 hk.1, by rw [hk.2 b h4]; exact h5⟩
theorem OutQ.app1 {h0 g : H} {k n : Nat} {a : Option (Nat × Nat)} {out : List (List V)} (o : OutQ h0 g k a n out) (ex : Bool) (x : Blk) (bytes : Nat) (row : List V) (hb : 0 < bytes) (hb2 : bytes ≤ 1048576) (hn : (n + 1) * bytes ≤ 35184372088832) :
    ∃ b' g', appRows (g.push x) k bytes a n n ex [row] = some (.sl (some (b', 0)) (n + 1) (n + 1) false, g') ∧ OutQ h0 g' k (some (b', 0)) (n + 1) (out ++ [row]) := by
  have o1 := o.push x
  have hr : roomOk (n + [row].length) bytes = true := by unfold roomOk; simp [hb, hb2, hn]
  obtain ⟨b, rfl, h3, h4, h5⟩ := o1.is
  have hseg : (g.push x).rseg k (some (b, 0)) n = some out := by
    unfold H.rseg
    by_cases hz : n = 0
    · have he : out = [] := List.eq_nil_of_length_eq_zero (by rw [← o1.len]; exact hz)
      rw [if_pos hz, he]
    · rw [if_neg hz]
      simp only [h5]
      rw [if_pos ⟨trivial, by rw [o1.len]; omega⟩, List.drop_zero, o1.len, List.take_length]
  unfold appRows
  rw [if_neg (by simp), if_pos hr, hseg, Option.bind_some]
  have hlose : ∃ h', (g.push x).loseR k (some (b, 0)) ex = some h' ∧ Kept h0 h' := by
    unfold H.loseR
    by_cases he : ex = true
    · rw [if_pos he]; exact ⟨_, rfl, o1.kept⟩
    · rw [if_neg he]
      simp only [h5]
      exact ⟨_, rfl, o1.kept.kill h3⟩
  obtain ⟨h', hl', hk'⟩ := hlose
  rw [hl', Option.bind_some]
  exact ⟨_, _, rfl, hk'.push, by rw [List.length_append, o.len]; rfl, _, rfl, hk'.1, Nat.lt_succ_self _, by rw [H.get_push, if_pos rfl]⟩
/-- An append behind, which leaves the other blocks as they are. -/
theorem OutQ.app1K {h0 g : H} {k n : Nat} {a : Option (Nat × Nat)} {out : List (List V)} (o : OutQ h0 g k a n out) (ex : Bool) (x : Blk) (bytes : Nat) (row : List V) (hb : 0 < bytes) (hb2 : bytes ≤ 1048576) (hn : (n + 1) * bytes ≤ 35184372088832) :
    ∃ b' g', appRows (g.push x) k bytes a n n ex [row] = some (.sl (some (b', 0)) (n + 1) (n + 1) false, g') ∧ OutQ h0 g' k (some (b', 0)) (n + 1) (out ++ [row]) ∧ KeptA a g g' ∧ g.nx < b' := by
  have o1 := o.push x
  have hr : roomOk (n + [row].length) bytes = true := by unfold roomOk; simp [hb, hb2, hn]
  obtain ⟨b, rfl, h3, h4, h5⟩ := o1.is
  have hseg : (g.push x).rseg k (some (b, 0)) n = some out := by
    unfold H.rseg
    by_cases hz : n = 0
    · have he : out = [] := List.eq_nil_of_length_eq_zero (by rw [← o1.len]; exact hz)
      rw [if_pos hz, he]
    · rw [if_neg hz]
      simp only [h5]
      rw [if_pos ⟨trivial, by rw [o1.len]; omega⟩, List.drop_zero, o1.len, List.take_length]
  unfold appRows
  rw [if_neg (by simp), if_pos hr, hseg, Option.bind_some]
  have hlose : ∃ h', (g.push x).loseR k (some (b, 0)) ex = some h' ∧ Kept h0 h' ∧ h'.nx = g.nx + 1 ∧ KeptA (some (b, 0)) g h' := by
    unfold H.loseR
    by_cases he : ex = true
    · rw [if_pos he]; exact ⟨_, rfl, o1.kept, rfl, KeptA.of_kept (Kept.push Kept.refl)⟩
    · rw [if_neg he]
      simp only [h5]
      refine ⟨_, rfl, o1.kept.kill h3, rfl, Nat.le_succ _, fun i hi hne => ?_⟩
      rw [H.get_kill, if_neg (by rintro rfl; exact hne rfl), H.get_push, if_neg (by omega)]
  obtain ⟨h', hl', hk', hnx, hka⟩ := hlose
  rw [hl', Option.bind_some]
  refine ⟨_, _, rfl, ⟨hk'.push, by rw [List.length_append, o.len]; rfl, _, rfl, hk'.1, Nat.lt_succ_self _, by rw [H.get_push, if_pos rfl]⟩, ⟨?_, fun i hi hne => ?_⟩, by omega⟩
  · show g.nx ≤ h'.nx + 1; omega
  · rw [H.get_push, if_neg (by omega)]; exact hka.2 i hi hne
theorem xJoinQ_rows {h0 g : H} {a : Option (Nat × Nat)} {n : Nat} {ex : Bool} {xs : List (List UInt8)} {sep : List UInt8} (o : OutQ h0 g 1 a n (xs.map sRow)) (hne : xs ≠ []) (hn : xs.length ≤ 140737488355328) (hl : (joinS xs sep).length ≤ 281474976710656) :
    xJoin [.sl a n n ex, .s sep] g = some (.s (joinS xs sep), g) := by
  have hnl := o.len
  rw [List.length_map] at hnl
  have h0 : ¬ n = 0 := by rw [hnl]; exact fun hh => hne (List.eq_nil_of_length_eq_zero hh)
  obtain ⟨b, rfl, h3, h4, h5⟩ := o.is
  unfold xJoin
  simp only
  rw [if_neg h0]
  simp only [h5, List.drop_zero]
  rw [show (xs.map sRow).take n = xs.map sRow from List.take_of_length_le (by rw [List.length_map]; omega), strsOf_rows]
  simp only
  rw [if_pos ⟨hnl.symm, by omega, hl⟩]

def letters : List UInt8 := [70, 82, 73, 66, 69, 78, 67]
def lineF (s : Sp) : Option (List UInt8) :=
  if s.k < 1 ∨ 10 ≤ s.k then none else
  if (formsL.getD s.k.toNat ([], [])).2.all (fun c => (partF s (c.toNat : Int)).2) = true then
    some (joinS ((formsL.getD s.k.toNat ([], [])).1 :: (formsL.getD s.k.toNat ([], [])).2.map fun c => (partF s (c.toNat : Int)).1) [32] ++ [10])
  else none
def lineV (s : Sp) : V :=
  match lineF s with
  | some t => .tup [.s t, .i .i64 0]
  | none => .tup [.s [], .i .i64 1]
theorem partF_len (s : Sp) {Z : H → Int → Bool} {h : H} (ok : SpOk Z h s) (c : Int) : (partF s c).1.length ≤ 10000000 := by
  have h1 := fF_len s.fs
  have h2 := ok.f
  have h3 := tx_len s.d
  have h4 := ok.d
  have h5 := itoF_len s.i
  have h6 := itoF_len s.n
  unfold partF
  split
  · simp only; omega
  · split
    · simp only [roleT]; split <;> simp
    · split
      · simp only; omega
      · split
        · simp only; omega
        · split
          · simp only [endT]; split <;> simp
          · split
            · simp only; omega
            · have := joinS_le (sep := [32]) (K := 21) (s.cs.map itoF) (fun x hx => by obtain ⟨c, _, rfl⟩ := List.mem_map.1 hx; exact itoF_len c)
              rw [List.length_map] at this
              simp [Sp.cs] at this
              simp only [Sp.cs]; simp; omega
theorem forms_ascii : ∀ i, i < 10 → ∀ j, j < (formsL.getD i ([], [])).2.length → Go.Utf8.decode ⟨(formsL.getD i ([], [])).2.toArray⟩ j = (((formsL.getD i ([], [])).2.getD j 0).toNat, 1) := by decide +kernel
theorem forms_letters : ∀ i, i < 10 → (formsL.getD i ([], [])).2.all (fun c => letters.contains c) = true := by decide +kernel
theorem forms_small : ∀ i, i < 10 → (formsL.getD i ([], [])).1.length ≤ 10 ∧ (formsL.getD i ([], [])).2.length ≤ 4 := by decide +kernel
def LineLoop (h : H) (bx ib : Nat) (row : List V) (P w : List UInt8) (s : Sp) (m : Nat) (t : Tm) (g : H) : Prop :=
  ∃ j sb n ex, m = P.length - j ∧ j ≤ P.length ∧ t.v 32 = .p (some (ib, 0, 0)) ∧ t.v 1 = .p (some (bx, 0, 0)) ∧ t.v 6 = .sl (some (sb, 0)) n n ex ∧ g.get ib = some (.iter P j) ∧ g.get bx = some (.rows 12 [row] false) ∧ ib < g.nx ∧ bx < g.nx ∧ sb ≠ ib ∧ sb ≠ bx ∧
    OutQ h g 1 (some (sb, 0)) n ((w :: (P.take j).map fun c => (partF s (c.toNat : Int)).1).map sRow) ∧ (P.take j).all (fun c => (partF s (c.toNat : Int)).2) = true
theorem line_wp {Z : H → Int → Bool} (hZ : Zok Z) {kfo kp kf kr kn kt ke km kj : Nat} (hfo : pr.ext kfo = none) (hff : pr.fn kfo = some c_script_forms)
    (hpA : pr.ext kp = none) (hpf : pr.fn kp = some (c_script_part kf kr kn kt ke km kj)) (hf : pr.ext kf = some gFld) (hr : pr.ext kr = some gRole) (hn : pr.ext kn = some (gNumS Z))
    (ht : pr.ext kt = some gTx2) (he : pr.ext ke = some gEnd) (hm : pr.ext km = none) (hmf : pr.fn km = some c_script_numbers) (hjo : pr.ext kj = some xJoin)
    {h : H} {s : Sp} {row : List V} (hrow : spRow h s row) (ok : SpOk Z h s) :
    wpF pr (c_script_Line kfo kp kj) [.agg row] h (fun v g => v = lineV s ∧ Kept h g) := by
  obtain ⟨p, fn, fc, fex, q, dn, dc, dex, hre, hfs, hd⟩ := id hrow
  have hrl : row.length = 12 := by rw [hre]; rfl
  have hr0 : row[0]? = some (.i .i64 s.k) := by rw [hre]; rfl
  have hrt : List.take 1 row = [.i .i64 s.k] := by rw [hre]; rfl
  have hr12 : List.take 12 row = row := by rw [hre]; rfl
  have hrf : row.all V.flat = true := by rw [hre]; rfl
  clear hre
  unfold wpF c_script_Line
  refine ⟨by simp, ?_⟩
  have hc5 := @wpCall_ext pr kj xJoin hjo
  simp only [↓STEP, SB, looked, behind, lookOk, AAct.kind, AOp.kind, wpRes, evRes, resV, AOp.ev, bin, binI, binS, shiftI, eqV, un, bound, boundO, fill, fillRows, aggOf, keyEq, findKey, putKey, V.cells, V.flat, byteOf, bytesOf, rdOf, H.wr, H.kOf, splice, isYl, ↓reduceIte, Nat.reduceEqDiff, Nat.reduceLeDiff, Nat.reduceLT, Nat.reduceAdd, Nat.reduceSub, Nat.reduceMul, Int.reduceLT, Int.reduceLE, Int.reduceEq, Int.reduceAdd, Int.reduceSub, Int.reduceMul, Int.reduceNeg, Int.reduceToNat, reduceCtorEq, hrl, hrf]
  refine Runs.mono (c := .fn kfo) («as» := [] ++ []) (forms_runs hfo hff) ?_
  rintro v g ⟨b, rfl, hb1, hb2, hgb, hkg⟩
  have hx1 : (h.push (.rows 12 [row] false)).nx = h.nx + 1 := rfl
  have hgn := hkg.1
  rw [hx1] at hb1 hgn
  have hgx : g.get h.nx = some (.rows 12 [row] false) := by rw [hkg.2 h.nx (by rw [hx1]; omega), H.get_push, if_pos rfl]
  have hkh : Kept h g := (Kept.push Kept.refl).trans hkg
  by_cases hk1 : s.k < 1
  · have hl : lineV s = .tup [.s [], .i .i64 1] := by unfold lineV lineF; rw [if_pos (.inl hk1)]
    rw [hl]
    simp only [↓STEP, SB, looked, behind, lookOk, AAct.kind, AOp.kind, wpRes, evRes, resV, AOp.ev, bin, binI, binS, shiftI, eqV, un, bound, boundO, fill, fillRows, aggOf, keyEq, findKey, putKey, V.cells, V.flat, byteOf, bytesOf, rdOf, H.wr, H.kOf, splice, isYl, ↓reduceIte, Nat.reduceEqDiff, Nat.reduceLeDiff, Nat.reduceLT, Nat.reduceAdd, Nat.reduceSub, Nat.reduceMul, Int.reduceLT, Int.reduceLE, Int.reduceEq, Int.reduceAdd, Int.reduceSub, Int.reduceMul, Int.reduceNeg, Int.reduceToNat, reduceCtorEq, hgx, hrl, hrt, hk1]
    exact hkh
  · by_cases hk2 : (10 : Int) ≤ s.k
    · have hl : lineV s = .tup [.s [], .i .i64 1] := by unfold lineV lineF; rw [if_pos (.inr hk2)]
      rw [hl]
      simp only [↓STEP, SB, looked, behind, lookOk, AAct.kind, AOp.kind, wpRes, evRes, resV, AOp.ev, bin, binI, binS, shiftI, eqV, un, bound, boundO, fill, fillRows, aggOf, keyEq, findKey, putKey, V.cells, V.flat, byteOf, bytesOf, rdOf, H.wr, H.kOf, splice, isYl, ↓reduceIte, Nat.reduceEqDiff, Nat.reduceLeDiff, Nat.reduceLT, Nat.reduceAdd, Nat.reduceSub, Nat.reduceMul, Int.reduceLT, Int.reduceLE, Int.reduceEq, Int.reduceAdd, Int.reduceSub, Int.reduceMul, Int.reduceNeg, Int.reduceToNat, reduceCtorEq, hgx, hrl, hrt, hk1, hk2]
      exact hkh
    · obtain ⟨ki, hki⟩ : ∃ ki : Nat, s.k = (ki : Int) := ⟨s.k.toNat, by omega⟩
      have hki9 : ki < 10 := by omega
      obtain ⟨w, P, hwP⟩ : ∃ w P, formsL.getD ki ([], []) = (w, P) := ⟨_, _, rfl⟩
      have hfl : (formsL.map formRow)[ki]? = some [.s w, .s P] := by
        have hl : ki < formsL.length := hki9
        rw [List.getElem?_map, List.getElem?_eq_getElem hl]
        rw [List.getD_eq_getElem?_getD, List.getElem?_eq_getElem hl] at hwP
        simp only [Option.getD_some] at hwP
        rw [hwP]; rfl
      have hasc := forms_ascii ki hki9
      have hlet := forms_letters ki hki9
      obtain ⟨hs1, hs2⟩ := forms_small ki hki9
      rw [hwP] at hasc hlet hs1 hs2
      simp only at hasc hlet hs1 hs2
      have hline : lineF s = if P.all (fun c => (partF s (c.toNat : Int)).2) = true then some (joinS (w :: P.map fun c => (partF s (c.toNat : Int)).1) [32] ++ [10]) else none := by
        unfold lineF
        rw [if_neg (by omega), hki, Int.toNat_natCast, hwP]
      have hk0 : (0 : Int) ≤ s.k := by omega
      have hk3 : s.k < 10 := by omega
      have hkn : s.k.toNat = ki := by omega
      have hgx2 : ¬ h.nx = g.nx := by omega
      simp only [↓STEP, SB, looked, behind, lookOk, AAct.kind, AOp.kind, wpRes, evRes, resV, AOp.ev, bin, binI, binS, shiftI, eqV, un, bound, boundO, fill, fillRows, aggOf, keyEq, findKey, putKey, V.cells, V.flat, byteOf, bytesOf, rdOf, H.wr, H.kOf, splice, isYl, ↓reduceIte, Nat.reduceEqDiff, Nat.reduceLeDiff, Nat.reduceLT, Nat.reduceAdd, Nat.reduceSub, Nat.reduceMul, Int.reduceLT, Int.reduceLE, Int.reduceEq, Int.reduceAdd, Int.reduceSub, Int.reduceMul, Int.reduceNeg, Int.reduceToNat, reduceCtorEq, hgx, hrl, hrt, hk1, hk2, hk0, hk3, hgb, hkn, hfl]
      refine wpA_loop_inv (LineLoop h h.nx (g.nx + 2) row P w s) ?_ (m := P.length) ?_
      · rintro m t g1 ⟨j, sb, n, ex, rfl, hj, e32, e1, e6, hgi, hgbx, hib, hbx, hne1, hne2, o, hall⟩
        have hnl := o.len
        simp only [List.length_map, List.length_cons, List.length_take] at hnl
        by_cases hlt : j < P.length
        · have hdec := hasc j hlt
          obtain ⟨c, hc⟩ : ∃ c, P[j]? = some c := ⟨P[j], List.getElem?_eq_getElem hlt⟩
          rw [List.getD_eq_getElem?_getD, hc] at hdec
          simp only [Option.getD_some] at hdec
          have hcl : letters.contains c = true := by
            have hm : c ∈ P := List.mem_of_getElem? hc
            exact List.all_eq_true.1 hlet c hm
          have hc7 : (c.toNat : Int) = 70 ∨ (c.toNat : Int) = 82 ∨ (c.toNat : Int) = 73 ∨ (c.toNat : Int) = 66 ∨ (c.toNat : Int) = 69 ∨ (c.toNat : Int) = 78 ∨ (c.toNat : Int) = 67 := by
            unfold letters at hcl
            simp only [List.contains_cons, Bool.or_eq_true, beq_iff_eq, List.contains_nil, Bool.false_eq_true, or_false] at hcl
            rcases hcl with rfl | rfl | rfl | rfl | rfl | rfl | rfl <;> simp
          have hlt0 : (j : Int) < P.length := by omega
          have hkg1 : Kept h (g1.set (g.nx + 2) (.iter P (j + 1))) := o.kept.set (by omega)
          have hbi : ¬ h.nx = g.nx + 2 := by omega
          simp only [↓STEP, SB, looked, behind, lookOk, AAct.kind, AOp.kind, wpRes, evRes, resV, AOp.ev, bin, binI, binS, shiftI, eqV, un, bound, boundO, fill, fillRows, aggOf, keyEq, findKey, putKey, V.cells, V.flat, byteOf, bytesOf, rdOf, H.wr, H.kOf, splice, isYl, ↓reduceIte, Nat.reduceEqDiff, Nat.reduceLeDiff, Nat.reduceLT, Nat.reduceAdd, Nat.reduceSub, Nat.reduceMul, Int.reduceLT, Int.reduceLE, Int.reduceEq, Int.reduceAdd, Int.reduceSub, Int.reduceMul, Int.reduceNeg, Int.reduceToNat, reduceCtorEq, e32, e1, e6, hgi, hlt, hdec, hgbx, hrl, hr12, hbi]
          refine Runs.mono (c := .fn kp) («as» := [.agg row, .i .i32 (c.toNat : Int)] ++ []) (part_runs hZ hpA hpf hf hr hn ht he hm hmf hjo (spRow_kept hrow hkg1) (ok.keep hZ hkg1) hc7) ?_
          rintro v g2 ⟨rfl, hk2⟩
          have hall1 : (P.take (j + 1)).all (fun c => (partF s (c.toNat : Int)).2) = (partF s (c.toNat : Int)).2 := by
            rw [List.take_add_one, hc, List.all_append, hall]; simp
          have hwd : (w :: (P.take (j + 1)).map fun c => (partF s (c.toNat : Int)).1).map sRow = (w :: (P.take j).map fun c => (partF s (c.toNat : Int)).1).map sRow ++ [sRow (partF s (c.toNat : Int)).1] := by
            rw [List.take_add_one, hc]; simp
          have hkg2 := hkg1.trans hk2
          have hln : lineV s = .tup [.s [], .i .i64 1] ∨ (partF s (c.toNat : Int)).2 = true := by
            by_cases hp : (partF s (c.toNat : Int)).2 = true
            · exact .inr hp
            · refine .inl ?_
              unfold lineV
              rw [hline, if_neg]
              intro hh
              exact hp (List.all_eq_true.1 hh c (List.mem_of_getElem? hc))
          have hplen := partF_len s ok (c.toNat : Int)
          generalize partF s (c.toNat : Int) = pc at *
          obtain ⟨pw, pb⟩ := pc
          simp only at hall1 hwd hln
          cases pb with
          | false =>
            rcases hln with hln | hln
            · rw [hln]
              simp only [↓STEP, SB, looked, behind, lookOk, AAct.kind, AOp.kind, wpRes, evRes, resV, AOp.ev, bin, binI, binS, shiftI, eqV, un, bound, boundO, fill, fillRows, aggOf, keyEq, findKey, putKey, V.cells, V.flat, byteOf, bytesOf, rdOf, H.wr, H.kOf, splice, isYl, ↓reduceIte, Nat.reduceEqDiff, Nat.reduceLeDiff, Nat.reduceLT, Nat.reduceAdd, Nat.reduceSub, Nat.reduceMul, Int.reduceLT, Int.reduceLE, Int.reduceEq, Int.reduceAdd, Int.reduceSub, Int.reduceMul, Int.reduceNeg, Int.reduceToNat, reduceCtorEq]
              exact hkg2
            · cases hln
          | true =>
            have hg2 : ∀ i X, i < g1.nx → i ≠ g.nx + 2 → g1.get i = some X → g2.get i = some X := fun i X hi hne hX => by
              rw [hk2.2 i (by show i < g1.nx; exact hi), H.get_set, if_neg hne]; exact hX
            have hgi2 : g2.get (g.nx + 2) = some (.iter P (j + 1)) := by rw [hk2.2 (g.nx + 2) hib, H.get_set, if_pos rfl]
            have hnx2 : g1.nx ≤ g2.nx := hk2.1
            obtain ⟨sb', hsb, hsb1, hsb2, hsb3⟩ := o.is
            cases hsb
            have o2 : OutQ h g2 1 (some (sb, 0)) n ((w :: (P.take j).map fun c => (partF s (c.toNat : Int)).1).map sRow) := ⟨hkg2, o.len, sb, rfl, hsb1, by omega, hg2 sb _ hsb2 hne1 hsb3⟩
            obtain ⟨b', g', q1, o', hka, hb'⟩ := o2.app1K ex (.rows 1 [[.s pw]] false) 16 [.s pw] (by omega) (by omega) (by omega)
            rw [show [V.s pw] = sRow pw from rfl, ← hwd] at o'
            simp only [↓STEP, SB, looked, behind, lookOk, AAct.kind, AOp.kind, wpRes, evRes, resV, AOp.ev, bin, binI, binS, shiftI, eqV, un, bound, boundO, fill, fillRows, aggOf, keyEq, findKey, putKey, V.cells, V.flat, byteOf, bytesOf, rdOf, H.wr, H.kOf, splice, isYl, ↓reduceIte, Nat.reduceEqDiff, Nat.reduceLeDiff, Nat.reduceLT, Nat.reduceAdd, Nat.reduceSub, Nat.reduceMul, Int.reduceLT, Int.reduceLE, Int.reduceEq, Int.reduceAdd, Int.reduceSub, Int.reduceMul, Int.reduceNeg, Int.reduceToNat, reduceCtorEq, e6, rseg_tmp1, q1]
            refine ⟨_, by omega, j + 1, b', n + 1, false, rfl, by omega, by simp [v_pd, v_pd0, e32], by simp [v_pd, v_pd0, e1], by simp [v_pd, v_pd0], ?_, ?_, ?_, ?_, ?_, ?_, o', by rw [hall1]⟩
            · rw [hka.2 _ (by omega) (by intro hh; cases hh; exact hne1 rfl)]; exact hgi2
            · rw [hka.2 _ (by omega) (by intro hh; cases hh; exact hne2 rfl)]; exact hg2 _ _ hbx (by omega) hgbx
            · have := hka.1; omega
            · have := hka.1; omega
            · omega
            · omega
        · have hjl : j = P.length := by omega
          subst hjl
          rw [List.take_length] at o hall
          rw [if_pos hall] at hline
          have hjl := joinS_le (sep := [32]) (K := 10000000) (w :: P.map fun c => (partF s (c.toNat : Int)).1) (fun x hx => by
            rcases List.mem_cons.1 hx with rfl | hx
            · omega
            · obtain ⟨c, _, rfl⟩ := List.mem_map.1 hx; exact partF_len s ok _)
          simp only [List.length_cons, List.length_map, List.length_nil] at hjl
          have hx := xJoinQ_rows (ex := ex) (sep := [32]) o (by simp) (by simp; omega) (by omega)
          have hadd : (joinS (w :: P.map fun c => (partF s (c.toNat : Int)).1) [32]).length + 1 ≤ 140737488355328 := by omega
          have hl : lineV s = .tup [.s (joinS (w :: P.map fun c => (partF s (c.toNat : Int)).1) [32] ++ [10]), .i .i64 0] := by unfold lineV; rw [hline]
          rw [hl]
          simp only [↓STEP, SB, looked, behind, lookOk, AAct.kind, AOp.kind, wpRes, evRes, resV, AOp.ev, bin, binI, binS, shiftI, eqV, un, bound, boundO, fill, fillRows, aggOf, keyEq, findKey, putKey, V.cells, V.flat, byteOf, bytesOf, rdOf, H.wr, H.kOf, splice, isYl, ↓reduceIte, Nat.reduceEqDiff, Nat.reduceLeDiff, Nat.reduceLT, Nat.reduceAdd, Nat.reduceSub, Nat.reduceMul, Int.reduceLT, Int.reduceLE, Int.reduceEq, Int.reduceAdd, Int.reduceSub, Int.reduceMul, Int.reduceNeg, Int.reduceToNat, reduceCtorEq, e32, e1, e6, hgi, hlt, hc5, hx, hadd]
          exact o.kept
      · have hs0 : h.nx ≠ g.nx := by omega
        refine ⟨0, g.nx + 1, 1, true, rfl, Nat.zero_le _, by simp [v_pd, v_pd0], by simp [v_pd, v_pd0], by simp [v_pd, v_pd0], ?_, ?_, ?_, ?_, by omega, by omega, ⟨?_, rfl, g.nx + 1, rfl, by omega, ?_, ?_⟩, rfl⟩
        · simp [H.get_push, nx_push, nx_set]
        · have e1 : ¬ h.nx = g.nx + 2 := by omega
          have e2 : ¬ h.nx = g.nx + 1 := by omega
          simp only [H.get_push, H.get_set, nx_push, nx_set, Nat.add_assoc, Nat.reduceAdd, e1, e2, hgx2, if_false]
          exact hgx
        · simp [nx_push, nx_set]
        · simp [nx_push, nx_set]; omega
        · exact hkh.trans (by (repeat (first | exact Kept.refl | apply Kept.push | refine Kept.kill ?_ (by omega) | refine Kept.set ?_ (by omega))))
        · simp [nx_push, nx_set]
        · simp [H.get_push, nx_push, nx_set]; rfl
/-! ### As a rule -/
def i64B (n : Int) : Bool := decide (-9223372036854775808 ≤ n) && decide (n ≤ 9223372036854775807)
theorem i64B_in {n : Int} (h : i64B n = true) : i64In n := by
  unfold i64B at h
  simp only [Bool.and_eq_true, decide_eq_true_eq] at h
  exact h
theorem i64B_of {n : Int} (h : i64In n) : i64B n = true := by
  unfold i64B
  simp only [Bool.and_eq_true, decide_eq_true_eq]
  exact h
def spOf (h : H) : List V → Option Sp
  | [.i .i64 k, .i .i64 r, .i .i64 i, .i .i64 n, .sl p fn _ _, .sl q dn _ _, .b e, .i .i64 c1, .i .i64 c2, .i .i64 c3, .i .i64 c4, .i .i64 c5] =>
    match rdF h p fn, rdB h q dn with
    | some fs, some d => some ⟨k, r, i, n, fs, d, e, c1, c2, c3, c4, c5⟩
    | _, _ => none
  | _ => none
def okB (Z : H → Int → Bool) (h : H) (s : Sp) : Bool :=
  i64B s.k && i64B s.r && i64B s.i && i64B s.n && s.cs.all (fun c => i64B c && Z h c) && Z h s.i && Z h s.n && decide (totF s.fs ≤ 1000000) && decide (s.d.length ≤ 1000000)
theorem okB_ok {Z : H → Int → Bool} {h : H} {s : Sp} (ho : okB Z h s = true) : SpOk Z h s := by
  unfold okB at ho
  simp only [Bool.and_eq_true, decide_eq_true_eq, List.all_eq_true] at ho
  obtain ⟨⟨⟨⟨⟨⟨⟨⟨h1, h2⟩, h3⟩, h4⟩, h5⟩, h6⟩, h7⟩, h8⟩, h9⟩ := ho
  exact ⟨i64B_in h1, i64B_in h2, i64B_in h3, i64B_in h4, fun c hc => ⟨i64B_in (h5 c hc).1, (h5 c hc).2⟩, h6, h7, h8, h9⟩
theorem okB_of {Z : H → Int → Bool} {h : H} {s : Sp} (o : SpOk Z h s) : okB Z h s = true := by
  unfold okB
  simp only [Bool.and_eq_true, decide_eq_true_eq, List.all_eq_true]
  exact ⟨⟨⟨⟨⟨⟨⟨⟨i64B_of o.k, i64B_of o.r⟩, i64B_of o.i⟩, i64B_of o.n⟩, fun c hc => ⟨i64B_of (o.c c hc).1, (o.c c hc).2⟩⟩, o.zi⟩, o.zn⟩, o.f⟩, o.d⟩
theorem spOf_row {h : H} {row : List V} {s : Sp} (hs : spOf h row = some s) : spRow h s row := by
  unfold spOf at hs
  split at hs
  · split at hs
    · rename_i h1 h2
      cases hs
      exact ⟨_, _, _, _, _, _, _, _, rfl, rdF_in h1, h2⟩
    · cases hs
  · cases hs
theorem spOf_of {h : H} {row : List V} {s : Sp} (hr : spRow h s row) : spOf h row = some s := by
  obtain ⟨p, fn, fc, fex, q, dn, dc, dex, rfl, hf, hd⟩ := hr
  simp only [spOf, rdF_of hf, hd]
def gLineS (Z : H → Int → Bool) (ys : List V) (h : H) : Option (V × H) :=
  match ys with
  | [.agg row] =>
    match spOf h row with
    | some s => if okB Z h s = true then some (lineV s, h) else none
    | none => none
  | _ => none
theorem gLineS_eq {Z : H → Int → Bool} {h : H} {row : List V} {s : Sp} (hr : spRow h s row) (ok : SpOk Z h s) : gLineS Z [.agg row] h = some (lineV s, h) := by
  unfold gLineS
  simp only [spOf_of hr]
  rw [if_pos (okB_of ok)]
theorem lineV_plain (s : Sp) : (lineV s).plain = true := by
  unfold lineV
  split <;> rfl
theorem lineP_ok {Z : H → Int → Bool} (hZ : Zok Z) {kfo kp kf kr kn kt ke km kj : Nat} (hfo : pr.ext kfo = none) (hff : pr.fn kfo = some c_script_forms)
    (hpA : pr.ext kp = none) (hpf : pr.fn kp = some (c_script_part kf kr kn kt ke km kj)) (hf : pr.ext kf = some gFld) (hr : pr.ext kr = some gRole) (hn : pr.ext kn = some (gNumS Z))
    (ht : pr.ext kt = some gTx2) (he : pr.ext ke = some gEnd) (hm : pr.ext km = none) (hmf : pr.fn km = some c_script_numbers) (hjo : pr.ext kj = some xJoin) : OkF pr (c_script_Line kfo kp kj) (gLineS Z) := by
  intro ys h v h' hg
  unfold gLineS at hg
  split at hg
  case h_2 => cases hg
  rename_i row
  split at hg
  · rename_i s hs
    split at hg
    · rename_i hok
      cases hg
      exact wpF_mono (line_wp hZ hfo hff hpA hpf hf hr hn ht he hm hmf hjo (spOf_row hs) (okB_ok hok)) fun v g hv => Abs.out hv.1 (lineV_plain s) hv.2
    · cases hg
  · cases hg
/-! ### What is written -/
def lineE (s : Sp) : List UInt8 × Int :=
  match lineF s with
  | some t => (t, 0)
  | none => ([], 1)
theorem lineV_E (s : Sp) : lineV s = .tup [.s (lineE s).1, .i .i64 (lineE s).2] := by
  unfold lineV lineE
  split <;> rfl
def errF (er e1 : Int) : Int := if e1 ≠ 0 ∧ er = 0 then e1 else er
def wrF : List Sp → List UInt8 → Int → Option (List UInt8 × Int)
  | [], acc, er => some (acc, er)
  | s :: r, acc, er => if 1048576 < acc.length + (lineE s).1.length then none else wrF r (acc ++ (lineE s).1) (errF er (lineE s).2)
def writeV (ss : List Sp) : V :=
  if 4096 < ss.length then .tup [.s [], .i .i64 2] else
  match wrF ss [] 0 with
  | none => .tup [.s [], .i .i64 2]
  | some (acc, er) => if er = 0 then .tup [.s acc, .i .i64 0] else .tup [.s [], .i .i64 er]
def spsOf (h : H) : List (List V) → Option (List Sp)
  | [] => some []
  | r :: rs =>
    match spOf h r, spsOf h rs with
    | some s, some ss => some (s :: ss)
    | _, _ => none
def rdSps (h : H) (p : Option (Nat × Nat)) (n : Nat) : Option (List Sp) :=
  if n = 0 then some [] else
  match p with
  | some (b, r) =>
    match h.get b with
    | some (.rows 12 all _) => if r + n ≤ all.length ∧ b < h.nx then spsOf h ((all.drop r).take n) else none
    | _ => none
  | none => none
theorem spsOf_get {h : H} : ∀ {rows : List (List V)} {ss : List Sp}, spsOf h rows = some ss → ss.length = rows.length ∧ ∀ (i : Nat) s, ss[i]? = some s → ∃ row, rows[i]? = some row ∧ spRow h s row
  | [], ss, hs => by rw [spsOf] at hs; cases hs; exact ⟨rfl, fun i s hi => by simp at hi⟩
  | r :: rs, ss, hs => by
    rw [spsOf] at hs
    split at hs
    · rename_i s ss' h1 h2
      cases hs
      obtain ⟨h3, h4⟩ := spsOf_get h2
      refine ⟨by simp [h3], fun i s' hi => ?_⟩
      cases i with
      | zero => simp at hi; subst hi; exact ⟨r, rfl, spOf_row h1⟩
      | succ i => simp at hi; obtain ⟨row, h5, h6⟩ := h4 i s' hi; exact ⟨row, by simpa using h5, h6⟩
    · cases hs
theorem rdSps_in {h : H} {p : Option (Nat × Nat)} {n : Nat} {ss : List Sp} (hr : rdSps h p n = some ss) : stepsIn h p n ss := by
  unfold rdSps at hr
  split at hr
  · rename_i h0; cases hr; exact ⟨by rw [h0]; rfl, .inl h0⟩
  · rename_i h0
    split at hr
    · rename_i b r
      split at hr
      · rename_i all ro hg
        split at hr
        · rename_i hc
          obtain ⟨h1, h2⟩ := spsOf_get hr
          rw [List.length_take, List.length_drop] at h1
          refine ⟨by omega, .inr ⟨b, r, all, ro, rfl, hc.2, hg, fun i s hi => ?_⟩⟩
          obtain ⟨row, h3, h4⟩ := h2 i s hi
          have hin : i < n := by
            have := (List.getElem?_eq_some_iff.1 hi).1
            omega
          rw [List.getElem?_take_of_lt hin, List.getElem?_drop] at h3
          exact ⟨row, h3, h4⟩
        · cases hr
      · cases hr
    · cases hr
theorem spsOf_of {h : H} : ∀ {rows : List (List V)} {ss : List Sp}, ss.length = rows.length → (∀ (i : Nat) s, ss[i]? = some s → ∃ row, rows[i]? = some row ∧ spRow h s row) → spsOf h rows = some ss
  | [], [], _, _ => rfl
  | [], _ :: _, hl, _ => by simp at hl
  | _ :: _, [], hl, _ => by simp at hl
  | r :: rs, s :: ss, hl, hg => by
    obtain ⟨row, h1, h2⟩ := hg 0 s rfl
    simp at h1; subst h1
    rw [spsOf, spOf_of h2, spsOf_of (by simpa using hl) fun i s' hi => by
      obtain ⟨row, h3, h4⟩ := hg (i + 1) s' (by simpa using hi)
      exact ⟨row, by simpa using h3, h4⟩]
theorem rdSps_of {h : H} {p : Option (Nat × Nat)} {n : Nat} {ss : List Sp} (hr : stepsIn h p n ss) : rdSps h p n = some ss := by
  obtain ⟨hl, hr⟩ := hr
  unfold rdSps
  by_cases h0 : n = 0
  · have : ss = [] := List.eq_nil_of_length_eq_zero (by omega)
    subst this
    rw [if_pos h0]
  · obtain ⟨b, r, all, ro, rfl, hb, hg, hat⟩ := hr.resolve_left h0
    rw [if_neg h0]
    simp only [hg]
    have hle : r + n ≤ all.length := by
      obtain ⟨row, h1, _⟩ := hat (n - 1) _ (List.getElem?_eq_getElem (by omega))
      have h2 := (List.getElem?_eq_some_iff.1 h1).1
      omega
    rw [if_pos ⟨hle, hb⟩]
    refine spsOf_of (by rw [List.length_take, List.length_drop]; omega) fun i s hi => ?_
    obtain ⟨row, h1, h2⟩ := hat i s hi
    have hin : i < n := by
      have := (List.getElem?_eq_some_iff.1 hi).1
      omega
    exact ⟨row, by rw [List.getElem?_take_of_lt hin, List.getElem?_drop]; exact h1, h2⟩
def gWr (Z : H → Int → Bool) (ys : List V) (h : H) : Option (V × H) :=
  match ys with
  | [.sl p n c ex] =>
    if 4096 < n then some (.tup [.s [], .i .i64 2], h) else
    match rdSps h p n with
    | some ss => if ss.all (okB Z h) = true then some (writeV ss, h) else none
    | none => none
  | _ => none
end Am
