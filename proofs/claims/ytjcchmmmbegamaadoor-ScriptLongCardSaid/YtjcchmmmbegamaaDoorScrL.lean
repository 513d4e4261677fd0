/- Script texts: what a letter of a line stands for. -/
import Derived.Test.YtjcchmmmbegamaaDoorScrN
namespace Am
set_option linter.unusedVariables false
set_option linter.unusedSimpArgs false
set_option maxRecDepth 20000
set_option maxHeartbeats 4000000
variable {pr : Prog}

def roleT (r : Int) : List UInt8 := if r = 1 then [99] else [115]
def endT (b : Bool) : List UInt8 := if b = true then [101, 110, 100] else [109, 111, 114, 101]
def gRole (ys : List V) (h : H) : Option (V × H) :=
  match ys with
  | [.i .i64 r] => some (.s (roleT r), h)
  | _ => none
def gEnd (ys : List V) (h : H) : Option (V × H) :=
  match ys with
  | [.b e] => some (.s (endT e), h)
  | _ => none
theorem roleP_ok : OkF pr c_script_role gRole := by
  intro ys h v h' hg
  unfold gRole at hg
  split at hg
  case h_2 => cases hg
  rename_i r
  cases hg
  unfold wpF c_script_role
  refine ⟨by simp, ?_⟩
  by_cases h1 : r = 1
  · simp only [↓STEP, SB, looked, behind, lookOk, AAct.kind, AOp.kind, wpRes, evRes, resV, AOp.ev, bin, binI, binS, shiftI, eqV, un, bound, boundO, fill, fillRows, aggOf, keyEq, findKey, putKey, V.cells, V.flat, byteOf, bytesOf, rdOf, H.wr, H.kOf, splice, isYl, ↓reduceIte, Nat.reduceEqDiff, Nat.reduceLeDiff, Nat.reduceLT, Nat.reduceAdd, Nat.reduceSub, Nat.reduceMul, Int.reduceLT, Int.reduceLE, Int.reduceEq, Int.reduceAdd, Int.reduceSub, Int.reduceMul, Int.reduceNeg, Int.reduceToNat, reduceCtorEq, h1]
    exact Abs.out rfl rfl Kept.refl
  · simp only [↓STEP, SB, looked, behind, lookOk, AAct.kind, AOp.kind, wpRes, evRes, resV, AOp.ev, bin, binI, binS, shiftI, eqV, un, bound, boundO, fill, fillRows, aggOf, keyEq, findKey, putKey, V.cells, V.flat, byteOf, bytesOf, rdOf, H.wr, H.kOf, splice, isYl, ↓reduceIte, Nat.reduceEqDiff, Nat.reduceLeDiff, Nat.reduceLT, Nat.reduceAdd, Nat.reduceSub, Nat.reduceMul, Int.reduceLT, Int.reduceLE, Int.reduceEq, Int.reduceAdd, Int.reduceSub, Int.reduceMul, Int.reduceNeg, Int.reduceToNat, reduceCtorEq, h1]
    exact Abs.out (by simp [roleT, h1]) rfl Kept.refl
theorem roleR_ok : OkF pr c_isthmusref23_Role gRole := by
  intro ys h v h' hg
  unfold gRole at hg
  split at hg
  case h_2 => cases hg
  rename_i r
  cases hg
  unfold wpF c_isthmusref23_Role
  refine ⟨by simp, ?_⟩
  by_cases h1 : r = 1
  · simp only [↓STEP, SB, looked, behind, lookOk, AAct.kind, AOp.kind, wpRes, evRes, resV, AOp.ev, bin, binI, binS, shiftI, eqV, un, bound, boundO, fill, fillRows, aggOf, keyEq, findKey, putKey, V.cells, V.flat, byteOf, bytesOf, rdOf, H.wr, H.kOf, splice, isYl, ↓reduceIte, Nat.reduceEqDiff, Nat.reduceLeDiff, Nat.reduceLT, Nat.reduceAdd, Nat.reduceSub, Nat.reduceMul, Int.reduceLT, Int.reduceLE, Int.reduceEq, Int.reduceAdd, Int.reduceSub, Int.reduceMul, Int.reduceNeg, Int.reduceToNat, reduceCtorEq, h1]
    exact Abs.out rfl rfl Kept.refl
  · simp only [↓STEP, SB, looked, behind, lookOk, AAct.kind, AOp.kind, wpRes, evRes, resV, AOp.ev, bin, binI, binS, shiftI, eqV, un, bound, boundO, fill, fillRows, aggOf, keyEq, findKey, putKey, V.cells, V.flat, byteOf, bytesOf, rdOf, H.wr, H.kOf, splice, isYl, ↓reduceIte, Nat.reduceEqDiff, Nat.reduceLeDiff, Nat.reduceLT, Nat.reduceAdd, Nat.reduceSub, Nat.reduceMul, Int.reduceLT, Int.reduceLE, Int.reduceEq, Int.reduceAdd, Int.reduceSub, Int.reduceMul, Int.reduceNeg, Int.reduceToNat, reduceCtorEq, h1]
    exact Abs.out (by simp [roleT, h1]) rfl Kept.refl
theorem endP_ok : OkF pr c_script_end gEnd := by
  intro ys h v h' hg
  unfold gEnd at hg
  split at hg
  case h_2 => cases hg
  rename_i e
  cases hg
  unfold wpF c_script_end
  refine ⟨by simp, ?_⟩
  cases e with
  | true => simp only [↓STEP, SB, looked, behind, lookOk, AAct.kind, AOp.kind, wpRes, evRes, resV, AOp.ev, bin, binI, binS, shiftI, eqV, un, bound, boundO, fill, fillRows, aggOf, keyEq, findKey, putKey, V.cells, V.flat, byteOf, bytesOf, rdOf, H.wr, H.kOf, splice, isYl, ↓reduceIte, Nat.reduceEqDiff, Nat.reduceLeDiff, Nat.reduceLT, Nat.reduceAdd, Nat.reduceSub, Nat.reduceMul, Int.reduceLT, Int.reduceLE, Int.reduceEq, Int.reduceAdd, Int.reduceSub, Int.reduceMul, Int.reduceNeg, Int.reduceToNat, reduceCtorEq]; exact Abs.out rfl rfl Kept.refl
  | false => simp only [↓STEP, SB, looked, behind, lookOk, AAct.kind, AOp.kind, wpRes, evRes, resV, AOp.ev, bin, binI, binS, shiftI, eqV, un, bound, boundO, fill, fillRows, aggOf, keyEq, findKey, putKey, V.cells, V.flat, byteOf, bytesOf, rdOf, H.wr, H.kOf, splice, isYl, ↓reduceIte, Nat.reduceEqDiff, Nat.reduceLeDiff, Nat.reduceLT, Nat.reduceAdd, Nat.reduceSub, Nat.reduceMul, Int.reduceLT, Int.reduceLE, Int.reduceEq, Int.reduceAdd, Int.reduceSub, Int.reduceMul, Int.reduceNeg, Int.reduceToNat, reduceCtorEq]; exact Abs.out rfl rfl Kept.refl
theorem endR_ok : OkF pr c_isthmusref23_End gEnd := by
  intro ys h v h' hg
  unfold gEnd at hg
  split at hg
  case h_2 => cases hg
  rename_i e
  cases hg
  unfold wpF c_isthmusref23_End
  refine ⟨by simp, ?_⟩
  cases e with
  | true => simp only [↓STEP, SB, looked, behind, lookOk, AAct.kind, AOp.kind, wpRes, evRes, resV, AOp.ev, bin, binI, binS, shiftI, eqV, un, bound, boundO, fill, fillRows, aggOf, keyEq, findKey, putKey, V.cells, V.flat, byteOf, bytesOf, rdOf, H.wr, H.kOf, splice, isYl, ↓reduceIte, Nat.reduceEqDiff, Nat.reduceLeDiff, Nat.reduceLT, Nat.reduceAdd, Nat.reduceSub, Nat.reduceMul, Int.reduceLT, Int.reduceLE, Int.reduceEq, Int.reduceAdd, Int.reduceSub, Int.reduceMul, Int.reduceNeg, Int.reduceToNat, reduceCtorEq]; exact Abs.out rfl rfl Kept.refl
  | false => simp only [↓STEP, SB, looked, behind, lookOk, AAct.kind, AOp.kind, wpRes, evRes, resV, AOp.ev, bin, binI, binS, shiftI, eqV, un, bound, boundO, fill, fillRows, aggOf, keyEq, findKey, putKey, V.cells, V.flat, byteOf, bytesOf, rdOf, H.wr, H.kOf, splice, isYl, ↓reduceIte, Nat.reduceEqDiff, Nat.reduceLeDiff, Nat.reduceLT, Nat.reduceAdd, Nat.reduceSub, Nat.reduceMul, Int.reduceLT, Int.reduceLE, Int.reduceEq, Int.reduceAdd, Int.reduceSub, Int.reduceMul, Int.reduceNeg, Int.reduceToNat, reduceCtorEq]; exact Abs.out rfl rfl Kept.refl

theorem numbers_runs {k : Nat} (hA : pr.ext k = none) (hfn : pr.fn k = some c_script_numbers) {h : H} {c1 c2 c3 c4 c5 : Int} :
    Runs pr (.fn k) [.agg [.i .i64 c1, .i .i64 c2, .i .i64 c3, .i .i64 c4, .i .i64 c5]] h (fun v g => ∃ b, v = .sl (some (b, 0)) 5 5 true ∧ h.nx ≤ b ∧ b < g.nx ∧ g.get b = some (.rows 1 [[.i .i64 c1], [.i .i64 c2], [.i .i64 c3], [.i .i64 c4], [.i .i64 c5]] false) ∧ Kept h g) := by
  refine runs_of_wpF hA hfn ?_
  unfold wpF c_script_numbers
  refine ⟨by simp, ?_⟩
  simp only [↓STEP, SB, looked, behind, lookOk, AAct.kind, AOp.kind, wpRes, evRes, resV, AOp.ev, bin, binI, binS, shiftI, eqV, un, bound, boundO, fill, fillRows, aggOf, keyEq, findKey, putKey, V.cells, V.flat, byteOf, bytesOf, rdOf, H.wr, H.kOf, splice, isYl, ↓reduceIte, Nat.reduceEqDiff, Nat.reduceLeDiff, Nat.reduceLT, Nat.reduceAdd, Nat.reduceSub, Nat.reduceMul, Int.reduceLT, Int.reduceLE, Int.reduceEq, Int.reduceAdd, Int.reduceSub, Int.reduceMul, Int.reduceNeg, Int.reduceToNat, reduceCtorEq]
  exact ⟨_, rfl, by omega, by omega, by simp, by (repeat (first | exact Kept.refl | apply Kept.push | refine Kept.kill ?_ (by omega) | refine Kept.set ?_ (by omega)))⟩
def formsL : List (List UInt8 × List UInt8) :=
  [([], []), ([114, 101, 113, 117, 101, 115, 116], [70, 69]), ([115, 101, 110, 100], [82, 73, 66, 69]), ([114, 101, 115, 112, 111, 110, 100], [73, 70, 69]), ([99, 97, 110, 99, 101, 108], [82, 73]), ([100, 101, 108, 105, 118, 101, 114], [82, 78]), ([116, 105, 99, 107], [78]), ([115, 116, 111, 112], [82]), ([99, 104, 97, 110, 103, 101], [82, 67]), ([99, 117, 116], [])]
def formRow (f : List UInt8 × List UInt8) : List V := [.s f.1, .s f.2]
theorem forms_runs {k : Nat} (hA : pr.ext k = none) (hfn : pr.fn k = some c_script_forms) {h : H} :
    Runs pr (.fn k) [] h (fun v g => ∃ b, v = .sl (some (b, 0)) 10 10 true ∧ h.nx ≤ b ∧ b < g.nx ∧ g.get b = some (.rows 2 (formsL.map formRow) false) ∧ Kept h g) := by
  refine runs_of_wpF hA hfn ?_
  unfold wpF c_script_forms
  refine ⟨by simp, ?_⟩
  simp only [↓STEP, SB, looked, behind, lookOk, AAct.kind, AOp.kind, wpRes, evRes, resV, AOp.ev, bin, binI, binS, shiftI, eqV, un, bound, boundO, fill, fillRows, aggOf, keyEq, findKey, putKey, V.cells, V.flat, byteOf, bytesOf, rdOf, H.wr, H.kOf, splice, isYl, ↓reduceIte, Nat.reduceEqDiff, Nat.reduceLeDiff, Nat.reduceLT, Nat.reduceAdd, Nat.reduceSub, Nat.reduceMul, Int.reduceLT, Int.reduceLE, Int.reduceEq, Int.reduceAdd, Int.reduceSub, Int.reduceMul, Int.reduceNeg, Int.reduceToNat, reduceCtorEq]
  exact ⟨_, rfl, by omega, by omega, by rw [if_pos rfl]; rfl, by (repeat (first | exact Kept.refl | apply Kept.push | refine Kept.kill ?_ (by omega) | refine Kept.set ?_ (by omega)))⟩

def i64In (n : Int) : Prop := -9223372036854775808 ≤ n ∧ n ≤ 9223372036854775807
def Sp.cs (s : Sp) : List Int := [s.c1, s.c2, s.c3, s.c4, s.c5]
structure SpOk (Z : H → Int → Bool) (h : H) (s : Sp) : Prop where
  k : i64In s.k
  r : i64In s.r
  i : i64In s.i
  n : i64In s.n
  c : ∀ c, c ∈ s.cs → i64In c ∧ Z h c = true
  zi : Z h s.i = true
  zn : Z h s.n = true
  f : totF s.fs ≤ 1000000
  d : s.d.length ≤ 1000000
theorem SpOk.keep {Z : H → Int → Bool} (hZ : Zok Z) {h g : H} {s : Sp} (o : SpOk Z h s) (hk : Kept h g) : SpOk Z g s :=
  ⟨o.k, o.r, o.i, o.n, fun c hc => ⟨(o.c c hc).1, hZ _ _ _ hk (o.c c hc).2⟩, hZ _ _ _ hk o.zi, hZ _ _ _ hk o.zn, o.f, o.d⟩
/-- What a letter stands for. -/
def partF (s : Sp) (c : Int) : List UInt8 × Bool :=
  if c = 70 then (fF s.fs, true) else
  if c = 82 then (roleT s.r, decide (s.r = 1) || decide (s.r = 2)) else
  if c = 73 then (itoF s.i, decide (0 ≤ s.i)) else
  if c = 66 then (txF s.d, true) else
  if c = 69 then (endT s.e, true) else
  if c = 78 then (itoF s.n, decide (0 ≤ s.n)) else
  (joinS (s.cs.map itoF) [32], s.cs.all fun c => decide (0 ≤ c))
theorem joinS_le {sep : List UInt8} {K : Nat} (xs : List (List UInt8)) (h : ∀ x ∈ xs, x.length ≤ K) : (joinS xs sep).length ≤ xs.length * (K + sep.length) := by
  have tail : ∀ ys : List (List UInt8), (∀ x ∈ ys, x.length ≤ K) → ((ys.map (sep ++ ·)).flatten).length ≤ ys.length * (K + sep.length) := by
    intro ys
    induction ys with
    | nil => intro _; simp
    | cons y ys ih =>
      intro hy
      have h1 := ih fun x hx => hy x (List.mem_cons_of_mem _ hx)
      have h2 := hy y (List.mem_cons_self ..)
      simp only [List.map_cons, List.flatten_cons, List.length_append, List.length_cons, Nat.succ_mul] at h1 ⊢
      omega
  cases xs with
  | nil => simp [joinS]
  | cons x r =>
    have h1 := tail r fun y hy => h y (List.mem_cons_of_mem _ hy)
    have h2 := h x (List.mem_cons_self ..)
    simp only [joinS, List.length_append, List.length_cons, Nat.succ_mul] at h1 ⊢
    omega
def NumLoop (h : H) (b : Nat) (cs : List Int) (m : Nat) (t : Tm) (g : H) : Prop :=
  ∃ i a n ex, m = cs.length - i ∧ i ≤ cs.length ∧ t.v 60 = .i .i64 (i : Nat) ∧ t.v 59 = .i .i64 cs.length ∧ t.v 58 = .sl (some (b, 0)) 5 5 true ∧ t.v 7 = .b ((cs.take i).all fun c => decide (0 ≤ c)) ∧ t.v 6 = .sl a n n ex ∧ OutR h g 1 a n ex ((cs.take i).map fun c => sRow (itoF c))
theorem part_runs {Z : H → Int → Bool} (hZ : Zok Z) {k kf kr kn kt ke km kj : Nat} (hA : pr.ext k = none) (hfn : pr.fn k = some (c_script_part kf kr kn kt ke km kj)) (hf : pr.ext kf = some gFld) (hr : pr.ext kr = some gRole) (hn : pr.ext kn = some (gNumS Z))
    (ht : pr.ext kt = some gTx2) (he : pr.ext ke = some gEnd) (hm : pr.ext km = none) (hmf : pr.fn km = some c_script_numbers) (hj : pr.ext kj = some xJoin)
    {h : H} {s : Sp} {row : List V} (hrow : spRow h s row) (ok : SpOk Z h s) {c : Int} (hc : c = 70 ∨ c = 82 ∨ c = 73 ∨ c = 66 ∨ c = 69 ∨ c = 78 ∨ c = 67) :
    Runs pr (.fn k) [.agg row, .i .i32 c] h (fun v g => v = .tup [.s (partF s c).1, .b (partF s c).2] ∧ Kept h g) := by
  refine runs_of_wpF hA hfn ?_
  obtain ⟨p, fn, fc, fex, q, dn, dc, dex, rfl, hfs, hd⟩ := hrow
  unfold wpF c_script_part
  refine ⟨by simp, ?_⟩
  have hc0 := @wpCall_ext pr kf gFld hf
  have hc1 := @wpCall_ext pr kr gRole hr
  have hc2 := @wpCall_ext pr kn (gNumS Z) hn
  have hc3 := @wpCall_ext pr kt gTx2 ht
  have hc4 := @wpCall_ext pr ke gEnd he
  have hc5 := @wpCall_ext pr kj xJoin hj
  have x1 : ∀ r g', gRole [.i .i64 r] g' = some (.s (roleT r), g') := fun r g' => rfl
  have x4 : ∀ e g', gEnd [.b e] g' = some (.s (endT e), g') := fun e g' => rfl
  have hk1 : ∀ X : Blk, Kept h (h.push X) := fun X => Kept.push Kept.refl
  rcases hc with rfl | rfl | rfl | rfl | rfl | rfl | rfl
  · have x0 : ∀ X, gFld [.sl p fn fc fex] (h.push X) = some (.s (fF s.fs), h.push X) := fun X => gFld_eq (rowsIn_kept hfs (hk1 X)) ok.f
    simp only [↓STEP, SB, looked, behind, lookOk, AAct.kind, AOp.kind, wpRes, evRes, resV, AOp.ev, bin, binI, binS, shiftI, eqV, un, bound, boundO, fill, fillRows, aggOf, keyEq, findKey, putKey, V.cells, V.flat, byteOf, bytesOf, rdOf, H.wr, H.kOf, splice, isYl, ↓reduceIte, Nat.reduceEqDiff, Nat.reduceLeDiff, Nat.reduceLT, Nat.reduceAdd, Nat.reduceSub, Nat.reduceMul, Int.reduceLT, Int.reduceLE, Int.reduceEq, Int.reduceAdd, Int.reduceSub, Int.reduceMul, Int.reduceNeg, Int.reduceToNat, reduceCtorEq, hc0, x0]
    exact ⟨rfl, hk1 _⟩
  · by_cases h1 : s.r = 1
    · have d1 := decide_eq_true h1
      simp only [↓STEP, SB, looked, behind, lookOk, AAct.kind, AOp.kind, wpRes, evRes, resV, AOp.ev, bin, binI, binS, shiftI, eqV, un, bound, boundO, fill, fillRows, aggOf, keyEq, findKey, putKey, V.cells, V.flat, byteOf, bytesOf, rdOf, H.wr, H.kOf, splice, isYl, ↓reduceIte, Nat.reduceEqDiff, Nat.reduceLeDiff, Nat.reduceLT, Nat.reduceAdd, Nat.reduceSub, Nat.reduceMul, Int.reduceLT, Int.reduceLE, Int.reduceEq, Int.reduceAdd, Int.reduceSub, Int.reduceMul, Int.reduceNeg, Int.reduceToNat, reduceCtorEq, hc1, x1, d1]
      exact ⟨by simp [partF, h1], hk1 _⟩
    · have d1 := decide_eq_false h1
      by_cases h2 : s.r = 2
      · have d2 := decide_eq_true h2
        simp only [↓STEP, SB, looked, behind, lookOk, AAct.kind, AOp.kind, wpRes, evRes, resV, AOp.ev, bin, binI, binS, shiftI, eqV, un, bound, boundO, fill, fillRows, aggOf, keyEq, findKey, putKey, V.cells, V.flat, byteOf, bytesOf, rdOf, H.wr, H.kOf, splice, isYl, ↓reduceIte, Nat.reduceEqDiff, Nat.reduceLeDiff, Nat.reduceLT, Nat.reduceAdd, Nat.reduceSub, Nat.reduceMul, Int.reduceLT, Int.reduceLE, Int.reduceEq, Int.reduceAdd, Int.reduceSub, Int.reduceMul, Int.reduceNeg, Int.reduceToNat, reduceCtorEq, hc1, x1, d1, d2]
        exact ⟨by simp [partF, h1, h2], hk1 _⟩
      · have d2 := decide_eq_false h2
        simp only [↓STEP, SB, looked, behind, lookOk, AAct.kind, AOp.kind, wpRes, evRes, resV, AOp.ev, bin, binI, binS, shiftI, eqV, un, bound, boundO, fill, fillRows, aggOf, keyEq, findKey, putKey, V.cells, V.flat, byteOf, bytesOf, rdOf, H.wr, H.kOf, splice, isYl, ↓reduceIte, Nat.reduceEqDiff, Nat.reduceLeDiff, Nat.reduceLT, Nat.reduceAdd, Nat.reduceSub, Nat.reduceMul, Int.reduceLT, Int.reduceLE, Int.reduceEq, Int.reduceAdd, Int.reduceSub, Int.reduceMul, Int.reduceNeg, Int.reduceToNat, reduceCtorEq, hc1, x1, d1, d2]
        exact ⟨by simp [partF, h1, h2], hk1 _⟩
  · have x2 : ∀ X, gNumS Z [.i .i64 s.i] (h.push X) = some (.s (itoF s.i), h.push X) := fun X => gNumS_eq (hZ _ _ _ (hk1 X) ok.zi) ok.i.1 ok.i.2
    simp only [↓STEP, SB, looked, behind, lookOk, AAct.kind, AOp.kind, wpRes, evRes, resV, AOp.ev, bin, binI, binS, shiftI, eqV, un, bound, boundO, fill, fillRows, aggOf, keyEq, findKey, putKey, V.cells, V.flat, byteOf, bytesOf, rdOf, H.wr, H.kOf, splice, isYl, ↓reduceIte, Nat.reduceEqDiff, Nat.reduceLeDiff, Nat.reduceLT, Nat.reduceAdd, Nat.reduceSub, Nat.reduceMul, Int.reduceLT, Int.reduceLE, Int.reduceEq, Int.reduceAdd, Int.reduceSub, Int.reduceMul, Int.reduceNeg, Int.reduceToNat, reduceCtorEq, hc2, x2]
    exact ⟨rfl, hk1 _⟩
  · have x3 : ∀ X, gTx2 [.s s.d] (h.push X) = some (.s (txF s.d), h.push X) := fun X => gTx2_eq (by have := ok.d; omega)
    have hdb : ∀ X, (h.push X).bseg q dn = some s.d := fun X => rdB_bseg (rdB_kept hd (hk1 X))
    simp only [↓STEP, SB, looked, behind, lookOk, AAct.kind, AOp.kind, wpRes, evRes, resV, AOp.ev, bin, binI, binS, shiftI, eqV, un, bound, boundO, fill, fillRows, aggOf, keyEq, findKey, putKey, V.cells, V.flat, byteOf, bytesOf, rdOf, H.wr, H.kOf, splice, isYl, ↓reduceIte, Nat.reduceEqDiff, Nat.reduceLeDiff, Nat.reduceLT, Nat.reduceAdd, Nat.reduceSub, Nat.reduceMul, Int.reduceLT, Int.reduceLE, Int.reduceEq, Int.reduceAdd, Int.reduceSub, Int.reduceMul, Int.reduceNeg, Int.reduceToNat, reduceCtorEq, hc3, hdb, x3]
    exact ⟨rfl, hk1 _⟩
  · simp only [↓STEP, SB, looked, behind, lookOk, AAct.kind, AOp.kind, wpRes, evRes, resV, AOp.ev, bin, binI, binS, shiftI, eqV, un, bound, boundO, fill, fillRows, aggOf, keyEq, findKey, putKey, V.cells, V.flat, byteOf, bytesOf, rdOf, H.wr, H.kOf, splice, isYl, ↓reduceIte, Nat.reduceEqDiff, Nat.reduceLeDiff, Nat.reduceLT, Nat.reduceAdd, Nat.reduceSub, Nat.reduceMul, Int.reduceLT, Int.reduceLE, Int.reduceEq, Int.reduceAdd, Int.reduceSub, Int.reduceMul, Int.reduceNeg, Int.reduceToNat, reduceCtorEq, hc4, x4]
    exact ⟨rfl, hk1 _⟩
  · have x2 : ∀ X, gNumS Z [.i .i64 s.n] (h.push X) = some (.s (itoF s.n), h.push X) := fun X => gNumS_eq (hZ _ _ _ (hk1 X) ok.zn) ok.n.1 ok.n.2
    simp only [↓STEP, SB, looked, behind, lookOk, AAct.kind, AOp.kind, wpRes, evRes, resV, AOp.ev, bin, binI, binS, shiftI, eqV, un, bound, boundO, fill, fillRows, aggOf, keyEq, findKey, putKey, V.cells, V.flat, byteOf, bytesOf, rdOf, H.wr, H.kOf, splice, isYl, ↓reduceIte, Nat.reduceEqDiff, Nat.reduceLeDiff, Nat.reduceLT, Nat.reduceAdd, Nat.reduceSub, Nat.reduceMul, Int.reduceLT, Int.reduceLE, Int.reduceEq, Int.reduceAdd, Int.reduceSub, Int.reduceMul, Int.reduceNeg, Int.reduceToNat, reduceCtorEq, hc2, x2]
    exact ⟨rfl, hk1 _⟩
  · simp only [↓STEP, SB, looked, behind, lookOk, AAct.kind, AOp.kind, wpRes, evRes, resV, AOp.ev, bin, binI, binS, shiftI, eqV, un, bound, boundO, fill, fillRows, aggOf, keyEq, findKey, putKey, V.cells, V.flat, byteOf, bytesOf, rdOf, H.wr, H.kOf, splice, isYl, ↓reduceIte, Nat.reduceEqDiff, Nat.reduceLeDiff, Nat.reduceLT, Nat.reduceAdd, Nat.reduceSub, Nat.reduceMul, Int.reduceLT, Int.reduceLE, Int.reduceEq, Int.reduceAdd, Int.reduceSub, Int.reduceMul, Int.reduceNeg, Int.reduceToNat, reduceCtorEq]
    refine Runs.mono (c := .fn km) («as» := [.agg [.i .i64 s.c1, .i .i64 s.c2, .i .i64 s.c3, .i .i64 s.c4, .i .i64 s.c5]] ++ []) (numbers_runs hm hmf) ?_
    rintro v g ⟨b, rfl, hb1, hb2, hgb, hkg⟩
    have hkh := (hk1 _).trans hkg
    have hcl : s.cs.length = 5 := rfl
    have hgb' : g.get b = some (.rows 1 (s.cs.map fun c => [.i .i64 c]) false) := hgb
    have okc := ok.c
    have hpart : partF s 67 = (joinS (s.cs.map itoF) [32], s.cs.all fun c => decide (0 ≤ c)) := rfl
    rw [hpart]
    generalize s.cs = cs at *
    clear hgb hpart
    simp only [↓STEP, SB, looked, behind, lookOk, AAct.kind, AOp.kind, wpRes, evRes, resV, AOp.ev, bin, binI, binS, shiftI, eqV, un, bound, boundO, fill, fillRows, aggOf, keyEq, findKey, putKey, V.cells, V.flat, byteOf, bytesOf, rdOf, H.wr, H.kOf, splice, isYl, ↓reduceIte, Nat.reduceEqDiff, Nat.reduceLeDiff, Nat.reduceLT, Nat.reduceAdd, Nat.reduceSub, Nat.reduceMul, Int.reduceLT, Int.reduceLE, Int.reduceEq, Int.reduceAdd, Int.reduceSub, Int.reduceMul, Int.reduceNeg, Int.reduceToNat, reduceCtorEq]
    refine wpA_loop_inv (NumLoop g b cs) ?_ (m := cs.length) ?_
    · rintro m t g1 ⟨i, a, n, ex, rfl, hi, e60, e59, e58, e7, e6, o⟩
      have hnl := o.len
      rw [List.length_map, List.length_take] at hnl
      by_cases hlt : (i : Int) < cs.length
      · have hil : i < cs.length := by omega
        have hil5 : (i : Int) < 5 := by omega
        have h1 : (cs.map fun c => [V.i .i64 c])[i]? = some [.i .i64 cs[i]] := by rw [List.getElem?_map, List.getElem?_eq_getElem hil]; rfl
        have hgg : g1.get b = some (.rows 1 (cs.map fun c => [.i .i64 c]) false) := by rw [o.kept.2 b hb2]; exact hgb'
        have hwr : Go.IntKind.wrap .i64 ((i : Int) + 1) = (i : Int) + 1 := wrap_i64 (by omega) (by omega)
        obtain ⟨hci, hcz⟩ := okc _ (List.getElem_mem hil)
        have hall : ((cs.take (i + 1)).all fun c => decide (0 ≤ c)) = (((cs.take i).all fun c => decide (0 ≤ c)) && decide (0 ≤ cs[i])) := by
          rw [List.take_add_one, List.getElem?_eq_getElem hil, List.all_append]; simp
        have htk : (cs.take (i + 1)).map (fun c => sRow (itoF c)) = (cs.take i).map (fun c => sRow (itoF c)) ++ [sRow (itoF cs[i])] := by
          rw [List.take_add_one, List.getElem?_eq_getElem hil, List.map_append]; rfl
        generalize cs[i] = c at *
        have x2 : gNumS Z [.i .i64 c] g1 = some (.s (itoF c), g1) := gNumS_eq (hZ _ _ _ (hkh.trans o.kept) hcz) hci.1 hci.2
        obtain ⟨b', g', e1, o'⟩ := o.app1 (.rows 1 [[.s (itoF c)]] false) 16 [.s (itoF c)] (by omega) (by omega) (by omega)
        rw [show [V.s (itoF c)] = sRow (itoF c) from rfl, ← htk] at o'
        generalize ((cs.take i).all fun c => decide (0 ≤ c)) = B at *
        cases B with
        | true =>
          simp only [↓STEP, SB, looked, behind, lookOk, AAct.kind, AOp.kind, wpRes, evRes, resV, AOp.ev, bin, binI, binS, shiftI, eqV, un, bound, boundO, fill, fillRows, aggOf, keyEq, findKey, putKey, V.cells, V.flat, byteOf, bytesOf, rdOf, H.wr, H.kOf, splice, isYl, ↓reduceIte, Nat.reduceEqDiff, Nat.reduceLeDiff, Nat.reduceLT, Nat.reduceAdd, Nat.reduceSub, Nat.reduceMul, Int.reduceLT, Int.reduceLE, Int.reduceEq, Int.reduceAdd, Int.reduceSub, Int.reduceMul, Int.reduceNeg, Int.reduceToNat, reduceCtorEq, e60, e59, e58, e7, e6, hlt, hil5, hgg, h1, hc2, x2, rseg_tmp1, e1, hwr]
          exact ⟨_, by omega, i + 1, _, _, _, rfl, by omega, by simp [v_pd, v_pd0], by simp [v_pd, v_pd0, e59], by simp [v_pd, v_pd0, e58], by simp [v_pd, v_pd0, hall], by simp [v_pd, v_pd0]; try exact ⟨rfl, rfl, rfl⟩, o'⟩
        | false =>
          simp only [↓STEP, SB, looked, behind, lookOk, AAct.kind, AOp.kind, wpRes, evRes, resV, AOp.ev, bin, binI, binS, shiftI, eqV, un, bound, boundO, fill, fillRows, aggOf, keyEq, findKey, putKey, V.cells, V.flat, byteOf, bytesOf, rdOf, H.wr, H.kOf, splice, isYl, ↓reduceIte, Nat.reduceEqDiff, Nat.reduceLeDiff, Nat.reduceLT, Nat.reduceAdd, Nat.reduceSub, Nat.reduceMul, Int.reduceLT, Int.reduceLE, Int.reduceEq, Int.reduceAdd, Int.reduceSub, Int.reduceMul, Int.reduceNeg, Int.reduceToNat, reduceCtorEq, e60, e59, e58, e7, e6, hlt, hil5, hgg, h1, hc2, x2, rseg_tmp1, e1, hwr]
          exact ⟨_, by omega, i + 1, _, _, _, rfl, by omega, by simp [v_pd, v_pd0], by simp [v_pd, v_pd0, e59], by simp [v_pd, v_pd0, e58], by simp [v_pd, v_pd0, hall], by simp [v_pd, v_pd0]; try exact ⟨rfl, rfl, rfl⟩, o'⟩
      · have hil : i = cs.length := by omega
        subst hil
        rw [List.take_length] at o e7
        have hmap : cs.map (fun c => sRow (itoF c)) = (cs.map itoF).map sRow := by rw [List.map_map]; rfl
        rw [hmap] at o
        have hx := xJoin_rows (sep := [32]) o (by intro hh; rw [List.map_eq_nil_iff] at hh; subst hh; simp at hcl) (by rw [List.length_map]; omega) (by have := joinS_le (sep := [32]) (K := 21) (cs.map itoF) (fun x hx => by obtain ⟨c, _, rfl⟩ := List.mem_map.1 hx; exact itoF_len c); rw [List.length_map, hcl] at this; simp at this; omega)
        simp only [↓STEP, SB, looked, behind, lookOk, AAct.kind, AOp.kind, wpRes, evRes, resV, AOp.ev, bin, binI, binS, shiftI, eqV, un, bound, boundO, fill, fillRows, aggOf, keyEq, findKey, putKey, V.cells, V.flat, byteOf, bytesOf, rdOf, H.wr, H.kOf, splice, isYl, ↓reduceIte, Nat.reduceEqDiff, Nat.reduceLeDiff, Nat.reduceLT, Nat.reduceAdd, Nat.reduceSub, Nat.reduceMul, Int.reduceLT, Int.reduceLE, Int.reduceEq, Int.reduceAdd, Int.reduceSub, Int.reduceMul, Int.reduceNeg, Int.reduceToNat, reduceCtorEq, e60, e59, e58, e7, e6, hlt, hc5, hx]
        exact hkh.trans o.kept
    · exact ⟨0, none, 0, true, rfl, Nat.zero_le _, by simp [v_pd], by simp [v_pd, hcl], by simp [v_pd], by simp [v_pd], by simp [v_pd], OutR.nil g 1⟩
end Am
