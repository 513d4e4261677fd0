/- Asking for an upgrade: what the program writes. -/
import Derived.Test.YtibmhhdgcbaofaaDoorAskA6
import Derived.Test.YtibmhhdgcbaofaaDoorAskA4
import Derived.Test.YtibmhhdgcbaofaaDoorAsk6
import Derived.Test.YtibmhhdgcbaofaaDoorAsk7
import Derived.Test.YtibmhhdgcbaofaaDoorAmJoin
import Derived.Test.YtibmhhdgcbaofaaDoorField10
namespace Am
set_option linter.unusedVariables false
set_option linter.unusedSimpArgs false
set_option maxRecDepth 20000
set_option maxHeartbeats 8000000
variable {pr : Prog}

/-- Rows of one's own, whatever is known of their room. -/
structure OutQ (h0 g : H) (k : Nat) (a : Option (Nat × Nat)) (n : Nat) (out : List (List V)) : Prop where
  kept : Kept h0 g
  len : n = out.length
  is : ∃ b, a = some (b, 0) ∧ h0.nx ≤ b ∧ b < g.nx ∧ g.get b = some (.rows k out false)
theorem OutQ.push {h0 g : H} {k n : Nat} {a : Option (Nat × Nat)} {out : List (List V)} (o : OutQ h0 g k a n out) (x : Blk) : OutQ h0 (g.push x) k a n out := by
  obtain ⟨b, h1, h3, h4, h5⟩ := o.is
  exact ⟨o.kept.push, o.len, b, h1, h3, Nat.lt_succ_of_lt h4, by rw [H.get_push, if_neg (by omega)]; exact h5⟩
theorem OutQ.keep {h0 g g' : H} {k n : Nat} {a : Option (Nat × Nat)} {out : List (List V)} (o : OutQ h0 g k a n out) (hk : Kept g g') : OutQ h0 g' k a n out := by
  obtain ⟨b, h1, h3, h4, h5⟩ := o.is
  exact ⟨o.kept.trans hk, o.len, b, h1, h3, Nat.lt_of_lt_of_le h4 hk.1, by rw [hk.2 b h4]; exact h5⟩
theorem OutQ.app1 {h0 g : H} {k n : Nat} {a : Option (Nat × Nat)} {out : List (List V)} (o : OutQ h0 g k a n out) (ex : Bool) (x : Blk) (bytes : Nat) (row : List V) (hb : 0 < bytes) (hb2 : bytes ≤ 1048576) (hn : (n + 1) * bytes ≤ 35184372088832) :
    ∃ b' g', appRows (g.push x) k bytes a n n ex [row] = some (.sl (some (b', 0)) (n + 1) (n + 1) false, g') ∧ OutQ h0 g' k (some (b', 0)) (n + 1) (out ++ [row]) := by
  have o1 := o.push x
  have hr : roomOk (n + [row].length) bytes = true := by unfold roomOk; simp [hb, hb2, hn]
  obtain ⟨b, rfl, h3, h4, h5⟩ := o1.is
  have hseg : (g.push x).rseg k (some (b, 0)) n = some out := by
    unfold H.rseg
    by_cases hz : n = 0
    · have he : out = [] := List.eq_nil_of_length_eq_zero (by rw [← o1.len]; exact hz)
      rw [if_pos hz, he]
    · rw [if_neg hz]
      simp only [h5]
      rw [if_pos ⟨trivial, by rw [o1.len]; omega⟩, List.drop_zero, o1.len, List.take_length]
  unfold appRows
  rw [if_neg (by simp), if_pos hr, hseg, Option.bind_some]
  have hlose : ∃ h', (g.push x).loseR k (some (b, 0)) ex = some h' ∧ Kept h0 h' := by
    unfold H.loseR
    by_cases he : ex = true
    · rw [if_pos he]; exact ⟨_, rfl, o1.kept⟩
    · rw [if_neg he]
      simp only [h5]
      exact ⟨_, rfl, o1.kept.kill h3⟩
  obtain ⟨h', hl', hk'⟩ := hlose
  rw [hl', Option.bind_some]
  exact ⟨_, _, rfl, hk'.push, by rw [List.length_append, o.len]; rfl, _, rfl, hk'.1, Nat.lt_succ_self _, by rw [H.get_push, if_pos rfl]⟩
theorem strsOf_rows (xs : List (List UInt8)) : strsOf (xs.map fun x => [V.s x]) = some xs := by
  induction xs with
  | nil => rfl
  | cons x xs ih => simp only [List.map_cons, strsOf, ih, Option.map_some]
theorem joinS_le {xs : List (List UInt8)} {sep : List UInt8} {m : Nat} (h : ∀ x ∈ xs, x.length ≤ m) : (joinS xs sep).length ≤ xs.length * (m + sep.length) := by
  have key : ∀ r : List (List UInt8), (∀ x ∈ r, x.length ≤ m) → ((r.map (sep ++ ·)).flatten).length ≤ r.length * (m + sep.length) := by
    intro r
    induction r with
    | nil => intro _; simp
    | cons x r ih =>
      intro hr
      have h1 := ih fun y hy => hr y (List.mem_cons_of_mem _ hy)
      have h2 := hr x (List.mem_cons_self ..)
      rw [List.map_cons, List.flatten_cons, List.length_append, List.length_append, List.length_cons, Nat.succ_mul]
      omega
  cases xs with
  | nil => simp [joinS]
  | cons x r =>
    have h1 := key r fun y hy => h y (List.mem_cons_of_mem _ hy)
    have h2 := h x (List.mem_cons_self ..)
    unfold joinS
    rw [List.length_append, List.length_cons, Nat.succ_mul]
    omega
theorem xJoin_q {h g : H} {a : Option (Nat × Nat)} {n : Nat} {ex : Bool} {xs : List (List UInt8)} {sep : List UInt8} (o : OutQ h g 1 a n (xs.map fun x => [V.s x])) (h0 : 0 < xs.length) (hn : xs.length ≤ 2000010) (hm : ∀ x ∈ xs, x.length ≤ 40000020) (hs : sep.length ≤ 2) :
    xJoin [.sl a n n ex, .s sep] g = some (.s (joinS xs sep), g) := by
  have hl := o.len
  rw [List.length_map] at hl
  obtain ⟨b, rfl, h3, h4, h5⟩ := o.is
  have hj := joinS_le (sep := sep) hm
  have hb : xs.length * (40000020 + sep.length) ≤ 2000010 * 40000022 := Nat.mul_le_mul hn (by omega)
  unfold xJoin
  simp only
  rw [if_neg (by omega)]
  simp only [h5]
  rw [List.drop_zero, List.take_of_length_le (by rw [List.length_map]; omega), strsOf_rows]
  simp only
  rw [if_pos ⟨hl.symm, by omega, by omega⟩]

def fieldT (f : Fd) : List UInt8 := f.n ++ [58, 32] ++ f.v
def linesT (a c d code : List UInt8) : List (List UInt8) := [a ++ [32] ++ d ++ [32, 72, 84, 84, 80, 47, 49, 46, 49], [72, 111, 115, 116, 58, 32] ++ c, [67, 111, 110, 110, 101, 99, 116, 105, 111, 110, 58, 32, 85, 112, 103, 114, 97, 100, 101, 44, 32, 72, 84, 84, 80, 50, 45, 83, 101, 116, 116, 105, 110, 103, 115],
  [85, 112, 103, 114, 97, 100, 101, 58, 32, 104, 50, 99], [72, 84, 84, 80, 50, 45, 83, 101, 116, 116, 105, 110, 103, 115, 58, 32] ++ code]
def textA (a c d code : List UInt8) (rest : List Fd) : List UInt8 := joinS (linesT a c d code ++ rest.map fieldT) [13, 10] ++ [13, 10] ++ [13, 10]
/-- What asking gives: an error's number, the text. -/
def askF (fs : List Fd) (ss : List St) : Int × List UInt8 :=
  if tellP reqP fs = false then (5, [])
  else if headF 0 fs = false ∨ headOk (headVs fs) = false then (5, [])
  else if ss.all okSt = false then (1, [])
  else if 16777215 < 6 * ss.length then (2, [])
  else if 16384 < (textA ((headVs fs).getD 0 []) ((headVs fs).getD 2 []) ((headVs fs).getD 3 []) (codeP (setB ss)) (fs.drop 4)).length then (2, [])
  else (0, textA ((headVs fs).getD 0 []) ((headVs fs).getD 2 []) ((headVs fs).getD 3 []) (codeP (setB ss)) (fs.drop 4))
def AskPost (h : H) (e : Int) (s : List UInt8) (v : V) (g : H) : Prop := Kept h g ∧ ∃ a n c ex, v = .tup [.sl a n c ex, .i .i64 e] ∧ n ≤ c ∧ rdB g a n = some s
theorem headOk_vs {vs : List (List UInt8)} (hl : vs.length ≤ 4) (h : headOk vs = true) : ∃ a b c d, vs = [a, b, c, d] := by
  match vs, hl with
  | [a, b, c, d], _ => exact ⟨a, b, c, d, rfl⟩
  | [], _ => simp [headOk] at h
  | [a], _ => simp [headOk] at h
  | [a, b], _ => simp [headOk] at h
  | [a, b, c], _ => simp [headOk, pathB, preSl] at h
  | _ :: _ :: _ :: _ :: _ :: _, hl => simp at hl

def AskLoop (h : H) (rest : List Fd) (base : List (List UInt8)) (p : Option (Nat × Nat)) (c : Nat) (ex0 : Bool) (m : Nat) (t : Tm) (g : H) : Prop :=
  ∃ (i : Nat) (a : Option (Nat × Nat)) (n : Nat) (ex : Bool), m = rest.length - i ∧ i ≤ rest.length ∧ t.v 52 = .i .i64 (i : Nat) ∧ t.v 51 = .i .i64 rest.length ∧ t.v 50 = .sl p rest.length c ex0 ∧ t.v 11 = .sl a n n ex ∧ OutQ h g 1 a n ((base ++ (rest.take i).map fieldT).map fun x => [V.s x])

theorem rowsIn_rest {h : H} {k : Nat} {p : Option (Nat × Nat)} {n d : Nat} {rs : List (List V)} (hr : rowsIn h k p n rs) (hd : d ≤ n) : rowsIn h k (restP p d) (n - d) (rs.drop d) := by
  obtain ⟨hl, hr⟩ := hr
  refine ⟨by rw [List.length_drop]; omega, ?_⟩
  rcases hr with h0 | ⟨b, r, all, ro, rfl, hb, hg, hat⟩
  · exact .inl (by omega)
  · exact .inr ⟨b, r + d, all, ro, rfl, hb, hg, fun i row hi => by rw [List.getElem?_drop] at hi; rw [show r + d + i = r + (d + i) by omega]; exact hat _ _ hi⟩

theorem ask_runs {kq kh km kc kj kA ko ka kt kg kr kme kpa kpd klow kpay kpr kl kw : Nat} (hA : pr.ext kA = none) (hfn : pr.fn kA = some (c_upgrade_Ask kq kh km kc kj)) (hq : pr.ext kq = some (gTell reqP))
    (hhA : pr.ext kh = none) (hhf : pr.fn kh = some (c_upgrade_heads ko ka kt kg kme kpa)) (hown : pr.ext ko = some (gTx ownB)) (hall : pr.ext ka = some (gAllB kg kt kr)) (hmeth : pr.ext kme = some (gTx methodB)) (hpath : pr.ext kpa = some (gTx pathB)) (hne : kt ≠ kg)
    (hmA : pr.ext km = none) (hmf : pr.fn km = some (c_frame_Make kpd klow kpay)) (hpd : pr.ext kpd = some gPadded) (hlow : pr.ext klow = some gLow)
    (hpA : pr.ext kpay = none) (hpf : pr.fn kpay = some (c_frame_payload kpr kl kw klow)) (hl : pr.ext kl = none) (hlf : pr.fn kl = some c_frame_lay) (hw : pr.ext kw = some gWord) (hcode : pr.ext kc = some gCode) (hjoin : pr.ext kj = some xJoin)
    {h : H} {p q : Option (Nat × Nat)} {n c m c2 : Nat} {ex ex2 : Bool} {fs : List Fd} {ss : List St} (hr : rowsIn h 3 p n (fs.map Fd.row)) (hn : n ≤ 2000000) (hsm : smallF fs) (hrs : rowsIn h 2 q m (ss.map St.row)) (hm : m ≤ 2000000) :
    Runs pr (.fn kA) [.sl p n c ex, .sl q m c2 ex2] h (AskPost h (askF fs ss).1 (askF fs ss).2) := by
  have xq := @wpCall_ext pr kq _ hq
  have xc := @wpCall_ext pr kc _ hcode
  have xj := @wpCall_ext pr kj _ hjoin
  have yq : ∀ g, Kept h g → gTell reqP [.sl p n c ex] g = some (.i .i64 (if tellP reqP fs = true then 0 else 5), g) := fun g hk => by
    rw [gTell_eq, readRows_eq Fd.row_inj (rowsIn_kept hr hk) (by omega)]; rfl
  have nilPost : ∀ e g, Kept h g → askF fs ss = (e, []) → AskPost h (askF fs ss).1 (askF fs ss).2 (.tup [.sl none 0 0 true, .i .i64 e]) g := fun e g hk he => by
    rw [he]; exact ⟨hk, none, 0, 0, true, rfl, Nat.le_refl _, rdB_of bseg_zero fun b hb => by cases hb⟩
  have hlen := hr.1
  rw [List.length_map] at hlen
  have hlenS := hrs.1
  rw [List.length_map] at hlenS
  refine runs_of_wpF hA hfn ?_
  unfold wpF c_upgrade_Ask
  refine ⟨by simp, ?_⟩
  have y0 := yq h Kept.refl
  cases hreq : tellP reqP fs with
  | false =>
    rw [hreq] at y0
    simp only [Bool.false_eq_true, if_false] at y0
    simp only [↓STEP, SB, looked, behind, lookOk, AAct.kind, AOp.kind, wpRes, evRes, resV, AOp.ev, bin, binI, binS, shiftI, eqV, un, bound, boundO, fill, fillRows, aggOf, keyEq, findKey, putKey, V.cells, V.flat, byteOf, bytesOf, rdOf, H.wr, H.kOf, splice, isYl, ↓reduceIte, Nat.reduceEqDiff, Nat.reduceLeDiff, Nat.reduceLT, Nat.reduceAdd, Nat.reduceSub, Nat.reduceMul, Int.reduceLT, Int.reduceLE, Int.reduceEq, Int.reduceAdd, Int.reduceSub, Int.reduceMul, Int.reduceNeg, Int.reduceToNat, reduceCtorEq, xq, y0]
    exact nilPost 5 h Kept.refl (by unfold askF; rw [if_pos hreq])
  | true =>
    rw [hreq] at y0
    simp only [if_true] at y0
    simp only [↓STEP, SB, looked, behind, lookOk, AAct.kind, AOp.kind, wpRes, evRes, resV, AOp.ev, bin, binI, binS, shiftI, eqV, un, bound, boundO, fill, fillRows, aggOf, keyEq, findKey, putKey, V.cells, V.flat, byteOf, bytesOf, rdOf, H.wr, H.kOf, splice, isYl, ↓reduceIte, Nat.reduceEqDiff, Nat.reduceLeDiff, Nat.reduceLT, Nat.reduceAdd, Nat.reduceSub, Nat.reduceMul, Int.reduceLT, Int.reduceLE, Int.reduceEq, Int.reduceAdd, Int.reduceSub, Int.reduceMul, Int.reduceNeg, Int.reduceToNat, reduceCtorEq, xq, y0]
    refine Runs.mono (c := .fn kh) («as» := [.sl p n c ex] ++ []) (heads_runs (kr := kr) hhA hhf hown hall hmeth hpath hne hr (by omega) hsm) ?_
    rintro v g ⟨hk, ⟨hh, rfl⟩ | ⟨hh, b, rfl, hb1, hb2, hmap⟩⟩
    · simp only [↓STEP, SB, looked, behind, lookOk, AAct.kind, AOp.kind, wpRes, evRes, resV, AOp.ev, bin, binI, binS, shiftI, eqV, un, bound, boundO, fill, fillRows, aggOf, keyEq, findKey, putKey, V.cells, V.flat, byteOf, bytesOf, rdOf, H.wr, H.kOf, splice, isYl, ↓reduceIte, Nat.reduceEqDiff, Nat.reduceLeDiff, Nat.reduceLT, Nat.reduceAdd, Nat.reduceSub, Nat.reduceMul, Int.reduceLT, Int.reduceLE, Int.reduceEq, Int.reduceAdd, Int.reduceSub, Int.reduceMul, Int.reduceNeg, Int.reduceToNat, reduceCtorEq]
      exact nilPost 5 g hk (by unfold askF; rw [if_neg (by rw [hreq]; simp), if_pos (.inl hh)])
    · cases hok : headOk (headVs fs) with
      | false =>
        simp only [↓STEP, SB, looked, behind, lookOk, AAct.kind, AOp.kind, wpRes, evRes, resV, AOp.ev, bin, binI, binS, shiftI, eqV, un, bound, boundO, fill, fillRows, aggOf, keyEq, findKey, putKey, V.cells, V.flat, byteOf, bytesOf, rdOf, H.wr, H.kOf, splice, isYl, ↓reduceIte, Nat.reduceEqDiff, Nat.reduceLeDiff, Nat.reduceLT, Nat.reduceAdd, Nat.reduceSub, Nat.reduceMul, Int.reduceLT, Int.reduceLE, Int.reduceEq, Int.reduceAdd, Int.reduceSub, Int.reduceMul, Int.reduceNeg, Int.reduceToNat, reduceCtorEq]
        exact nilPost 5 g hk (by unfold askF; rw [if_neg (by rw [hreq]; simp), if_pos (.inr hok)])
      | true =>
        have hvl : (headVs fs).length = min fs.length 4 := by unfold headVs; rw [List.length_map, List.length_take]; omega
        obtain ⟨va, vb, vc, vd, hvs⟩ := headOk_vs (by omega) hok
        have h4 : 4 ≤ fs.length := by rw [hvs] at hvl; simp at hvl; omega
        rw [Nat.min_eq_right h4]
        simp only [↓STEP, SB, looked, behind, lookOk, AAct.kind, AOp.kind, wpRes, evRes, resV, AOp.ev, bin, binI, binS, shiftI, eqV, un, bound, boundO, fill, fillRows, aggOf, keyEq, findKey, putKey, V.cells, V.flat, byteOf, bytesOf, rdOf, H.wr, H.kOf, splice, isYl, ↓reduceIte, Nat.reduceEqDiff, Nat.reduceLeDiff, Nat.reduceLT, Nat.reduceAdd, Nat.reduceSub, Nat.reduceMul, Int.reduceLT, Int.reduceLE, Int.reduceEq, Int.reduceAdd, Int.reduceSub, Int.reduceMul, Int.reduceNeg, Int.reduceToNat, reduceCtorEq]
        refine Runs.mono (c := .fn km) («as» := [.i .i64 4, .i .i64 0, .i .i64 0, .agg (bodyS q m c2 ex2)] ++ []) (make_runs hmA hmf hpd hlow hpA hpf hl hlf hw (rowsIn_kept hrs hk) (by omega)) ?_
        rintro v2 g2 ⟨hk2, ⟨hok2, rfl⟩ | ⟨hok2, hbig, rfl⟩ | ⟨hok2, hbig, fa, fn, fex, rfl, hrd⟩⟩
        · simp only [↓STEP, SB, looked, behind, lookOk, AAct.kind, AOp.kind, wpRes, evRes, resV, AOp.ev, bin, binI, binS, shiftI, eqV, un, bound, boundO, fill, fillRows, aggOf, keyEq, findKey, putKey, V.cells, V.flat, byteOf, bytesOf, rdOf, H.wr, H.kOf, splice, isYl, ↓reduceIte, Nat.reduceEqDiff, Nat.reduceLeDiff, Nat.reduceLT, Nat.reduceAdd, Nat.reduceSub, Nat.reduceMul, Int.reduceLT, Int.reduceLE, Int.reduceEq, Int.reduceAdd, Int.reduceSub, Int.reduceMul, Int.reduceNeg, Int.reduceToNat, reduceCtorEq, frame0]
          exact nilPost 1 _ (by first | exact ((hk.trans hk2).push).set (by have := (hk.trans hk2).1; omega) | exact (hk.trans hk2).trans (by (repeat (first | exact Kept.refl | apply Kept.push | refine Kept.kill ?_ (by omega) | refine Kept.set ?_ (by omega))))) (by unfold askF; rw [if_neg (by rw [hreq]; simp), if_neg (by rw [hh, hok]; simp), if_pos hok2])
        · simp only [↓STEP, SB, looked, behind, lookOk, AAct.kind, AOp.kind, wpRes, evRes, resV, AOp.ev, bin, binI, binS, shiftI, eqV, un, bound, boundO, fill, fillRows, aggOf, keyEq, findKey, putKey, V.cells, V.flat, byteOf, bytesOf, rdOf, H.wr, H.kOf, splice, isYl, ↓reduceIte, Nat.reduceEqDiff, Nat.reduceLeDiff, Nat.reduceLT, Nat.reduceAdd, Nat.reduceSub, Nat.reduceMul, Int.reduceLT, Int.reduceLE, Int.reduceEq, Int.reduceAdd, Int.reduceSub, Int.reduceMul, Int.reduceNeg, Int.reduceToNat, reduceCtorEq, frame0]
          exact nilPost 2 _ (by first | exact ((hk.trans hk2).push).set (by have := (hk.trans hk2).1; omega) | exact (hk.trans hk2).trans (by (repeat (first | exact Kept.refl | apply Kept.push | refine Kept.kill ?_ (by omega) | refine Kept.set ?_ (by omega))))) (by unfold askF; rw [if_neg (by rw [hreq]; simp), if_neg (by rw [hh, hok]; simp), if_neg (by rw [hok2]; simp), if_pos hbig])
        · have hsv : ∀ x ∈ headVs fs, x.length ≤ 2000000 := fun x hx => by
            obtain ⟨f, hf, rfl⟩ := List.mem_map.1 hx
            have := hsm f (List.mem_of_mem_take hf)
            exact this.2
          rw [hvs] at hsv hmap
          have la := hsv va (by simp)
          have lc := hsv vc (by simp)
          have ld := hsv vd (by simp)
          have hfn : fn = 6 * ss.length := by have := rdB_len hrd; rw [setB_len] at this; exact this.symm
          have hcl := codeP_len (setB ss)
          rw [setB_len] at hcl
          have f0 : findKey .str (.s [58, 109, 101, 116, 104, 111, 100]) (ents (zipN [va, vb, vc, vd])) = some (some (.s va)) := by rw [findKey_ents]; rfl
          have f2 : findKey .str (.s [58, 97, 117, 116, 104, 111, 114, 105, 116, 121]) (ents (zipN [va, vb, vc, vd])) = some (some (.s vc)) := by rw [findKey_ents]; rfl
          have f3 : findKey .str (.s [58, 112, 97, 116, 104]) (ents (zipN [va, vb, vc, vd])) = some (some (.s vd)) := by rw [findKey_ents]; rfl
          have fb : g2.get b = some (.map (ents (zipN [va, vb, vc, vd]))) := (hk2.2 b hb2).trans hmap
          have nb : b ≠ g2.nx := by have := hk2.1; omega
          have yc : ∀ G, Kept g2 G → gCode [.sl fa fn fn fex] G = some (.s (codeP (setB ss)), G) := fun G hG => gCode_eq (by omega) (rdB_kept hrd hG)
          have ycc := yc ((g2.push (Blk.rows 4 [[V.i Go.IntKind.i64 0, V.i Go.IntKind.i64 0, V.i Go.IntKind.i64 0, V.sl none 0 0 true]] false)).set g2.nx (Blk.rows 4 [[V.i Go.IntKind.i64 4, V.i Go.IntKind.i64 0, V.i Go.IntKind.i64 0, V.sl fa fn fn fex]] false)) (by (repeat (first | exact Kept.refl | apply Kept.push | refine Kept.kill ?_ (by omega) | refine Kept.set ?_ (by omega))))
          have c1 : va.length + 1 ≤ 140737488355328 := by omega
          have c2 : (va ++ [(32 : UInt8)]).length + vd.length ≤ 140737488355328 := by simp; omega
          have c3 : (va ++ [(32 : UInt8)] ++ vd).length + 9 ≤ 140737488355328 := by simp; omega
          have c4 : 6 + vc.length ≤ 140737488355328 := by omega
          have c5 : 16 + (codeP (setB ss)).length ≤ 140737488355328 := by omega
          have hask : askF fs ss = if 16384 < (textA va vc vd (codeP (setB ss)) (fs.drop 4)).length then (2, []) else (0, textA va vc vd (codeP (setB ss)) (fs.drop 4)) := by
            unfold askF
            rw [if_neg (by rw [hreq]; simp), if_neg (by rw [hh, hok]; simp), if_neg (by rw [hok2]; simp), if_neg (by omega), hvs]
            rfl
          have hkk := hk.trans hk2
          have hrest := rowsIn_rest (rowsIn_kept hr hkk) (d := 4) (by omega)
          have hdl : (fs.drop 4).length = fs.length - 4 := List.length_drop
          have hrl : n - 4 = (fs.drop 4).length := by omega
          rw [List.map_drop.symm] at hrest
          have hsm4 : smallF (fs.drop 4) := fun f hf => hsm f (List.mem_of_mem_drop hf)
          simp only [↓STEP, SB, looked, behind, lookOk, AAct.kind, AOp.kind, wpRes, evRes, resV, AOp.ev, bin, binI, binS, shiftI, eqV, un, bound, boundO, fill, fillRows, aggOf, keyEq, findKey, putKey, V.cells, V.flat, byteOf, bytesOf, rdOf, H.wr, H.kOf, splice, isYl, ↓reduceIte, Nat.reduceEqDiff, Nat.reduceLeDiff, Nat.reduceLT, Nat.reduceAdd, Nat.reduceSub, Nat.reduceMul, Int.reduceLT, Int.reduceLE, Int.reduceEq, Int.reduceAdd, Int.reduceSub, Int.reduceMul, Int.reduceNeg, Int.reduceToNat, reduceCtorEq, ycc, xc, fb, nb, f0, f2, f3, c1, c2, c3, c4, c5]
          generalize hG : H.push (H.set (H.push g2 _) _ _) _ = G
          have hkG : Kept g2 G := by rw [← hG]; (repeat (first | exact Kept.refl | apply Kept.push | refine Kept.kill ?_ (by omega) | refine Kept.set ?_ (by omega)))
          have hnG : G.nx = g2.nx + 2 := by rw [← hG]; rfl
          have oG : OutQ h G 1 (some (g2.nx + 1, 0)) 5 ((linesT va vc vd (codeP (setB ss))).map fun x => [V.s x]) := by
            refine ⟨hkk.trans hkG, rfl, g2.nx + 1, rfl, by have := hkk.1; omega, by omega, ?_⟩
            rw [← hG]
            simp only [↓STEP, SB, looked, behind, lookOk, AAct.kind, AOp.kind, wpRes, evRes, resV, AOp.ev, bin, binI, binS, shiftI, eqV, un, bound, boundO, fill, fillRows, aggOf, keyEq, findKey, putKey, V.cells, V.flat, byteOf, bytesOf, rdOf, H.wr, H.kOf, splice, isYl, ↓reduceIte, Nat.reduceEqDiff, Nat.reduceLeDiff, Nat.reduceLT, Nat.reduceAdd, Nat.reduceSub, Nat.reduceMul, Int.reduceLT, Int.reduceLE, Int.reduceEq, Int.reduceAdd, Int.reduceSub, Int.reduceMul, Int.reduceNeg, Int.reduceToNat, reduceCtorEq]
            rfl
          clear hG
          refine ⟨by simp, ?_⟩
          have hbase : ∀ x ∈ linesT va vc vd (codeP (setB ss)), x.length ≤ 40000020 := by
            intro x hx
            simp only [linesT, List.mem_cons, List.not_mem_nil, or_false] at hx
            rcases hx with rfl | rfl | rfl | rfl | rfl
            · simp; omega
            · simp; omega
            · simp
            · simp
            · simp; omega
          have hrows2 := rowsIn_kept hrest hkG
          rw [hrl] at hrows2
          have hask2 : ∀ R, fs.drop 4 = R → askF fs ss = if 16384 < (textA va vc vd (codeP (setB ss)) R).length then (2, []) else (0, textA va vc vd (codeP (setB ss)) R) := fun R hR => by rw [hask, hR]
          obtain ⟨R, hR⟩ : ∃ R, fs.drop 4 = R := ⟨_, rfl⟩
          have hask := hask2 R hR
          clear hask2
          rw [hR] at hrows2 hdl hsm4 hrl
          obtain ⟨hRl, hrows3⟩ := hrows2
          refine wpA_loop_inv (AskLoop h R (linesT va vc vd (codeP (setB ss))) (restP p 4) (c - 4) ex) ?_ (m := R.length) ?_
          · rintro m t g3 ⟨i, a, n', ex', rfl, hi, e52, e51, e50, e11, o⟩
            have hnl := o.len
            rw [List.length_map, List.length_append, List.length_map, List.length_take, Nat.min_eq_left hi, show (linesT va vc vd (codeP (setB ss))).length = 5 from rfl] at hnl
            have hroom : (n' + 1) * 16 ≤ 35184372088832 := by omega
            by_cases hlt : i < R.length
            · have hlt' : (i : Int) < (R.length : Int) := by omega
              obtain ⟨bb, r, all, ro, hpe, hbb, hgb, hat⟩ := hrows3.resolve_left (by omega)
              rw [hpe] at e50
              have hgb' : g3.get bb = some (.rows 3 all ro) := by
                have hbh : bb < h.nx := by
                  obtain ⟨b0, r0, _, _, rfl, hb0, _⟩ := hr.2.resolve_left (by omega)
                  cases hpe; exact hb0
                rw [o.kept.2 bb hbh, ← (hkk.trans hkG).2 bb hbh]; exact hgb
              have hrw : all[r + i]? = some [.s R[i].n, .s R[i].v, .b R[i].z] := hat i _ (by rw [List.getElem?_map, List.getElem?_eq_getElem hlt]; rfl)
              have hwr : Go.IntKind.wrap .i64 ((i : Int) + 1) = (i : Int) + 1 := wrap_i64 (by omega) (by omega)
              have hsf := hsm4 R[i] (List.getElem_mem hlt)
              have hsucc : (R.take (i + 1)).map fieldT = (R.take i).map fieldT ++ [fieldT R[i]] := by rw [List.take_add_one, List.getElem?_eq_getElem hlt, List.map_append]; rfl
              generalize R[i] = f at *
              have l1 : f.n.length + 2 ≤ 140737488355328 := by omega
              have l2 : (f.n ++ [58, 32]).length + f.v.length ≤ 140737488355328 := by simp; omega
              have hk5 : Kept g3 ((g3.push (Blk.rows 3 [[V.s [], V.s [], V.b false]] false)).set g3.nx (Blk.rows 3 [[V.s f.n, V.s f.v, V.b f.z]] false)) := by (repeat (first | exact Kept.refl | apply Kept.push | refine Kept.kill ?_ (by omega) | refine Kept.set ?_ (by omega)))
              have hnx5 : ((g3.push (Blk.rows 3 [[V.s [], V.s [], V.b false]] false)).set g3.nx (Blk.rows 3 [[V.s f.n, V.s f.v, V.b f.z]] false)).nx = g3.nx + 1 := rfl
              have nbb : bb ≠ g3.nx := by
                have := o.kept.1
                obtain ⟨b0, r0, _, _, rfl, hb0, _⟩ := hr.2.resolve_left (by omega)
                cases hpe; omega
              obtain ⟨b', g', q1, o'⟩ := (o.keep hk5).app1 ex' (.rows 1 [[.s (f.n ++ [58, 32] ++ f.v)]] false) 16 [.s (f.n ++ [58, 32] ++ f.v)] (by decide) (by decide) hroom
              have s1 := rseg_tmp1 ((g3.push (Blk.rows 3 [[V.s [], V.s [], V.b false]] false)).set g3.nx (Blk.rows 3 [[V.s f.n, V.s f.v, V.b f.z]] false)) 1 [.s (f.n ++ [58, 32] ++ f.v)]
              rw [hnx5] at s1
              simp only [↓STEP, SB, looked, behind, lookOk, AAct.kind, AOp.kind, wpRes, evRes, resV, AOp.ev, bin, binI, binS, shiftI, eqV, un, bound, boundO, fill, fillRows, aggOf, keyEq, findKey, putKey, V.cells, V.flat, byteOf, bytesOf, rdOf, H.wr, H.kOf, splice, isYl, ↓reduceIte, Nat.reduceEqDiff, Nat.reduceLeDiff, Nat.reduceLT, Nat.reduceAdd, Nat.reduceSub, Nat.reduceMul, Int.reduceLT, Int.reduceLE, Int.reduceEq, Int.reduceAdd, Int.reduceSub, Int.reduceMul, Int.reduceNeg, Int.reduceToNat, reduceCtorEq, e52, e51, e50, e11, hlt', hgb', hrw, nbb, l1, l2, s1, q1, hwr]
              refine ⟨_, by omega, i + 1, some (b', 0), n' + 1, false, rfl, by omega, by simp [v_pd, v_pd0], by simp [v_pd, v_pd0, e51], by simp [v_pd, v_pd0, e50, hpe], by simp [v_pd, v_pd0], ?_⟩
              rw [hsucc, ← List.append_assoc, List.map_append]
              exact o'
            · have hil : i = R.length := by omega
              subst hil
              have hlt' : ¬ (R.length : Int) < (R.length : Int) := by omega
              rw [List.take_length] at o
              have hmem : ∀ x ∈ linesT va vc vd (codeP (setB ss)) ++ R.map fieldT, x.length ≤ 40000020 := by
                intro x hx
                rcases List.mem_append.1 hx with hx | hx
                · exact hbase x hx
                · obtain ⟨f, hf, rfl⟩ := List.mem_map.1 hx
                  have := hsm4 f hf
                  simp [fieldT]; omega
              have hll : (linesT va vc vd (codeP (setB ss)) ++ R.map fieldT).length = 5 + R.length := by rw [List.length_append, List.length_map]; rfl
              have yj := xJoin_q (ex := ex') (sep := [13, 10]) o (by omega) (by omega) hmem (by decide)
              have hjl := joinS_le (sep := [13, 10]) hmem
              have hjb : (linesT va vc vd (codeP (setB ss)) ++ R.map fieldT).length * (40000020 + 2) ≤ 2000010 * 40000022 := Nat.mul_le_mul (by omega) (by omega)
              have hjl' : (joinS (linesT va vc vd (codeP (setB ss)) ++ R.map fieldT) [13, 10]).length ≤ 2000010 * 40000022 := Nat.le_trans hjl hjb
              have j1 : (joinS (linesT va vc vd (codeP (setB ss)) ++ R.map fieldT) [13, 10]).length + 2 ≤ 140737488355328 := by omega
              have j2 : (joinS (linesT va vc vd (codeP (setB ss)) ++ R.map fieldT) [13, 10] ++ [13, 10]).length + 2 ≤ 140737488355328 := by simp; omega
              have htx : joinS (linesT va vc vd (codeP (setB ss)) ++ R.map fieldT) [13, 10] ++ [13, 10] ++ [13, 10] = textA va vc vd (codeP (setB ss)) R := rfl
              generalize hT : textA va vc vd (codeP (setB ss)) R = T at hask htx
              by_cases hbig : (16384 : Int) < (T.length : Int)
              · simp only [↓STEP, SB, looked, behind, lookOk, AAct.kind, AOp.kind, wpRes, evRes, resV, AOp.ev, bin, binI, binS, shiftI, eqV, un, bound, boundO, fill, fillRows, aggOf, keyEq, findKey, putKey, V.cells, V.flat, byteOf, bytesOf, rdOf, H.wr, H.kOf, splice, isYl, ↓reduceIte, Nat.reduceEqDiff, Nat.reduceLeDiff, Nat.reduceLT, Nat.reduceAdd, Nat.reduceSub, Nat.reduceMul, Int.reduceLT, Int.reduceLE, Int.reduceEq, Int.reduceAdd, Int.reduceSub, Int.reduceMul, Int.reduceNeg, Int.reduceToNat, reduceCtorEq, e52, e51, e50, e11, hlt', xj, yj, j1, j2, htx, hbig]
                exact nilPost 2 g3 o.kept (by rw [hask, if_pos (by omega)])
              · simp only [↓STEP, SB, looked, behind, lookOk, AAct.kind, AOp.kind, wpRes, evRes, resV, AOp.ev, bin, binI, binS, shiftI, eqV, un, bound, boundO, fill, fillRows, aggOf, keyEq, findKey, putKey, V.cells, V.flat, byteOf, bytesOf, rdOf, H.wr, H.kOf, splice, isYl, ↓reduceIte, Nat.reduceEqDiff, Nat.reduceLeDiff, Nat.reduceLT, Nat.reduceAdd, Nat.reduceSub, Nat.reduceMul, Int.reduceLT, Int.reduceLE, Int.reduceEq, Int.reduceAdd, Int.reduceSub, Int.reduceMul, Int.reduceNeg, Int.reduceToNat, reduceCtorEq, e52, e51, e50, e11, hlt', xj, yj, j1, j2, htx, hbig]
                rw [hask, if_neg (by omega)]
                exact ⟨o.kept.push, some (g3.nx, 0), T.length, T.length, false, rfl, Nat.le_refl _, rdB_of (bseg_tmp g3 T) fun b hb => by cases hb; exact Nat.lt_succ_self _⟩
          · refine ⟨0, some (g2.nx + 1, 0), 5, true, rfl, Nat.zero_le _, by simp [v_pd, v_pd0], ?_, ?_, by simp [v_pd, v_pd0], ?_⟩
            · simp [v_pd, v_pd0]; omega
            · simp [v_pd, v_pd0]; omega
            · rw [List.take_zero, List.map_nil, List.append_nil]
              exact ⟨oG.kept, oG.len, oG.is⟩

end Am
