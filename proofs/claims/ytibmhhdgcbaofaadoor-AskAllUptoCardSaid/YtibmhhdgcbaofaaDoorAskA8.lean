/- Asking for an upgrade: what the document writes. -/
import Derived.Test.YtibmhhdgcbaofaaDoorAskA7
import Derived.Test.YtibmhhdgcbaofaaDoorAskA5
import Derived.Test.YtibmhhdgcbaofaaDoorField8
namespace Am
set_option linter.unusedVariables false
set_option linter.unusedSimpArgs false
set_option maxRecDepth 20000
set_option maxHeartbeats 8000000
variable {pr : Prog}

def badF (i : Nat) (f : Fd) : Bool := f.z || (decide (i = 0) && !decide (f.n = nM)) || (decide (i = 1) && !decide (f.n = nS)) || (decide (i = 2) && !decide (f.n = nA))
def lineT (f : Fd) : List UInt8 := f.n ++ [58, 32] ++ f.v ++ [13, 10]
def moreF : Nat → List UInt8 → List Fd → Option (List UInt8)
  | _, m, [] => some m
  | i, m, f :: fs =>
    if badF i f = true then none
    else if f.n[0]? = some 58 then moreF (i + 1) m fs
    else if ownB f.n = true then none
    else if allP chT f.v = false then none
    else moreF (i + 1) (if m.length ≤ 16384 then m ++ lineT f else m) fs
def condG (fs : List Fd) : Bool := tellP reqP fs && decide (ofF nS fs = [104, 116, 116, 112]) && !decide (ofF nA fs = []) && methodB (ofF nM fs) && allP chG (ofF nP fs) && allP chG (ofF nA fs)
def textG (m p host code more : List UInt8) : List UInt8 :=
  m ++ [32] ++ p ++ [32, 72, 84, 84, 80, 47, 49, 46, 49, 13, 10, 72, 111, 115, 116, 58, 32] ++ host ++ [13, 10, 67, 111, 110, 110, 101, 99, 116, 105, 111, 110, 58, 32, 85, 112, 103, 114, 97, 100, 101, 44, 32, 72, 84, 84, 80, 50, 45, 83, 101, 116, 116, 105, 110, 103, 115, 13, 10, 85, 112, 103, 114, 97, 100, 101, 58, 32, 104, 50, 99, 13, 10, 72, 84, 84, 80, 50, 45, 83, 101, 116, 116, 105, 110, 103, 115, 58, 32] ++ code ++ [13, 10] ++ more ++ [13, 10]
def askG (fs : List Fd) (ss : List St) : Int × List UInt8 :=
  if condG fs = false then (5, [])
  else match moreF 0 [] fs with
    | none => (5, [])
    | some more =>
      if ss.all okSt = false then (1, [])
      else if 16777215 < 6 * ss.length ∨ 16384 < 6 * ss.length then (2, [])
      else if 16384 < (textG (ofF nM fs) (ofF nP fs) (ofF nA fs) (codeP (setB ss)) more).length then (2, [])
      else (0, textG (ofF nM fs) (ofF nP fs) (ofF nA fs) (codeP (setB ss)) more)
theorem ofF_small {fs : List Fd} (h : smallF fs) (k : List UInt8) : (ofF k fs).length ≤ 2000000 := by
  induction fs with
  | nil => simp [ofF]
  | cons f fs ih =>
    unfold ofF
    split
    · exact (h f (List.mem_cons_self ..)).2
    · exact ih fun g hg => h g (List.mem_cons_of_mem _ hg)

def RefLoop (h : H) (fs : List Fd) (p : Option (Nat × Nat)) (c : Nat) (ex : Bool) (x1 x6 x7 x8 : V) (m : Nat) (t : Tm) (g : H) : Prop :=
  ∃ (i : Nat) (more : List UInt8), m = fs.length - i ∧ i ≤ fs.length ∧ t.v 10 = .i .i64 (i : Nat) ∧ t.v 9 = .s more ∧ t.v 0 = .sl p fs.length c ex ∧ t.v 1 = x1 ∧ t.v 6 = x6 ∧ t.v 7 = x7 ∧ t.v 8 = x8 ∧ g = h ∧ moreF i more (fs.drop i) = moreF 0 [] fs ∧ more.length ≤ 5000000

theorem askref_runs {ko kq km kv kmk kc kA kwr kon kpb kbe kwi : Nat} (hA : pr.ext kA = none) (hfn : pr.fn kA = some (c_isthmusref18_Ask ko kq km kv kmk kc)) (hof : pr.ext ko = some gOf) (hq : pr.ext kq = some (gTell reqP)) (hmeth : pr.ext km = some (gTx methodB)) (hvis : pr.ext kv = some gVis)
    (hmA : pr.ext kmk = none) (hmf : pr.fn kmk = some (c_isthmusref7_Make kwr kon kpb kbe)) (hwA : pr.ext kwr = none) (hwf : pr.fn kwr = some (c_isthmusref7_wrong kon kwi)) (hwi : pr.ext kwi = some gWithin7) (hbe : pr.ext kbe = some gBe) (hcode : pr.ext kc = some gCode)
    {h : H} {p q : Option (Nat × Nat)} {n c m c2 : Nat} {ex ex2 : Bool} {fs : List Fd} {ss : List St} (hr : rowsIn h 3 p n (fs.map Fd.row)) (hn : n ≤ 2000000) (hsm : smallF fs) (hnz : tellP reqP fs = true → ∀ f ∈ fs, f.n ≠ []) (hrs : rowsIn h 2 q m (ss.map St.row)) (hm : m ≤ 2000000) :
    Runs pr (.fn kA) [.sl p n c ex, .sl q m c2 ex2] h (AskPost h (askG fs ss).1 (askG fs ss).2) := by
  have xo := @wpCall_ext pr ko _ hof
  have xq := @wpCall_ext pr kq _ hq
  have xm := @wpCall_ext pr km _ hmeth
  have xv := @wpCall_ext pr kv _ hvis
  have xc := @wpCall_ext pr kc _ hcode
  have hread := readRows_eq Fd.row_inj hr (by omega)
  have yq : gTell reqP [.sl p n c ex] h = some (.i .i64 (if tellP reqP fs = true then 0 else 5), h) := by rw [gTell_eq, hread]; rfl
  have yo : ∀ k, gOf [.sl p n c ex, .s k] h = some (.s (ofF k fs), h) := fun k => by simp only [gOf, hread, Option.bind_some]
  have hs := fun k => ofF_small hsm k
  have ym := gTx_eq (p := methodB) (l := ofF nM fs) (h := h) (by have := hs nM; omega)
  have yv1 : gVis [.s (ofF nP fs), .b false] h = some (.b (allP chG (ofF nP fs)), h) := if_pos (by have := hs nP; omega)
  have yv2 : gVis [.s (ofF nA fs), .b false] h = some (.b (allP chG (ofF nA fs)), h) := if_pos (by have := hs nA; omega)
  have yoM : gOf [.sl p n c ex, .s [58, 109, 101, 116, 104, 111, 100]] h = some (.s (ofF nM fs), h) := yo nM
  have yoS : gOf [.sl p n c ex, .s [58, 115, 99, 104, 101, 109, 101]] h = some (.s (ofF nS fs), h) := yo nS
  have yoA : gOf [.sl p n c ex, .s [58, 97, 117, 116, 104, 111, 114, 105, 116, 121]] h = some (.s (ofF nA fs), h) := yo nA
  have yoP : gOf [.sl p n c ex, .s [58, 112, 97, 116, 104]] h = some (.s (ofF nP fs), h) := yo nP
  have nilPost : ∀ e g, Kept h g → askG fs ss = (e, []) → AskPost h (askG fs ss).1 (askG fs ss).2 (.tup [.sl none 0 0 true, .i .i64 e]) g := fun e g hk he => by
    rw [he]; exact ⟨hk, none, 0, 0, true, rfl, Nat.le_refl _, rdB_of bseg_zero fun b hb => by cases hb⟩
  have hlen := hr.1
  rw [List.length_map] at hlen
  have hlenS := hrs.1
  rw [List.length_map] at hlenS
  refine runs_of_wpF hA hfn ?_
  unfold wpF c_isthmusref18_Ask
  refine ⟨by simp, ?_⟩
  have no : condG fs = false → AskPost h (askG fs ss).1 (askG fs ss).2 (.tup [.sl none 0 0 true, .i .i64 5]) h := fun hc => nilPost 5 h Kept.refl (by unfold askG; rw [if_pos hc])
  cases hreq : tellP reqP fs with
  | false =>
    rw [hreq] at yq
    simp only [Bool.false_eq_true, if_false] at yq
    simp only [↓STEP, SB, looked, behind, lookOk, AAct.kind, AOp.kind, wpRes, evRes, resV, AOp.ev, bin, binI, binS, shiftI, eqV, un, bound, boundO, fill, fillRows, aggOf, keyEq, findKey, putKey, V.cells, V.flat, byteOf, bytesOf, rdOf, H.wr, H.kOf, splice, isYl, ↓reduceIte, Nat.reduceEqDiff, Nat.reduceLeDiff, Nat.reduceLT, Nat.reduceAdd, Nat.reduceSub, Nat.reduceMul, Int.reduceLT, Int.reduceLE, Int.reduceEq, Int.reduceAdd, Int.reduceSub, Int.reduceMul, Int.reduceNeg, Int.reduceToNat, reduceCtorEq, xq, yq, xo, yoM, yoA, yoP]
    exact no (by unfold condG; rw [hreq]; rfl)
  | true =>
    have hnz := hnz hreq
    rw [hreq] at yq
    simp only [if_true] at yq
    by_cases d1 : ofF nS fs = [104, 116, 116, 112]
    · by_cases d2 : ofF nA fs = []
      · have yoA' := yoA
        rw [d2] at yoA'
        simp only [↓STEP, SB, looked, behind, lookOk, AAct.kind, AOp.kind, wpRes, evRes, resV, AOp.ev, bin, binI, binS, shiftI, eqV, un, bound, boundO, fill, fillRows, aggOf, keyEq, findKey, putKey, V.cells, V.flat, byteOf, bytesOf, rdOf, H.wr, H.kOf, splice, isYl, ↓reduceIte, Nat.reduceEqDiff, Nat.reduceLeDiff, Nat.reduceLT, Nat.reduceAdd, Nat.reduceSub, Nat.reduceMul, Int.reduceLT, Int.reduceLE, Int.reduceEq, Int.reduceAdd, Int.reduceSub, Int.reduceMul, Int.reduceNeg, Int.reduceToNat, reduceCtorEq, xq, yq, xo, yoM, yoA', yoP, yoS, eq_true d1]
        exact no (by unfold condG; rw [decide_eq_true d2]; simp)
      · cases d3 : methodB (ofF nM fs) with
        | false =>
          rw [d3] at ym
          simp only [↓STEP, SB, looked, behind, lookOk, AAct.kind, AOp.kind, wpRes, evRes, resV, AOp.ev, bin, binI, binS, shiftI, eqV, un, bound, boundO, fill, fillRows, aggOf, keyEq, findKey, putKey, V.cells, V.flat, byteOf, bytesOf, rdOf, H.wr, H.kOf, splice, isYl, ↓reduceIte, Nat.reduceEqDiff, Nat.reduceLeDiff, Nat.reduceLT, Nat.reduceAdd, Nat.reduceSub, Nat.reduceMul, Int.reduceLT, Int.reduceLE, Int.reduceEq, Int.reduceAdd, Int.reduceSub, Int.reduceMul, Int.reduceNeg, Int.reduceToNat, reduceCtorEq, xq, yq, xo, yoM, yoA, yoP, yoS, eq_true d1, d2, xm, ym]
          exact no (by unfold condG; rw [d3]; simp)
        | true =>
          rw [d3] at ym
          cases d4 : allP chG (ofF nP fs) with
          | false =>
            rw [d4] at yv1
            simp only [↓STEP, SB, looked, behind, lookOk, AAct.kind, AOp.kind, wpRes, evRes, resV, AOp.ev, bin, binI, binS, shiftI, eqV, un, bound, boundO, fill, fillRows, aggOf, keyEq, findKey, putKey, V.cells, V.flat, byteOf, bytesOf, rdOf, H.wr, H.kOf, splice, isYl, ↓reduceIte, Nat.reduceEqDiff, Nat.reduceLeDiff, Nat.reduceLT, Nat.reduceAdd, Nat.reduceSub, Nat.reduceMul, Int.reduceLT, Int.reduceLE, Int.reduceEq, Int.reduceAdd, Int.reduceSub, Int.reduceMul, Int.reduceNeg, Int.reduceToNat, reduceCtorEq, xq, yq, xo, yoM, yoA, yoP, yoS, eq_true d1, d2, xm, ym, xv, yv1]
            exact no (by unfold condG; rw [d4]; simp)
          | true =>
            rw [d4] at yv1
            cases d5 : allP chG (ofF nA fs) with
            | false =>
              rw [d5] at yv2
              simp only [↓STEP, SB, looked, behind, lookOk, AAct.kind, AOp.kind, wpRes, evRes, resV, AOp.ev, bin, binI, binS, shiftI, eqV, un, bound, boundO, fill, fillRows, aggOf, keyEq, findKey, putKey, V.cells, V.flat, byteOf, bytesOf, rdOf, H.wr, H.kOf, splice, isYl, ↓reduceIte, Nat.reduceEqDiff, Nat.reduceLeDiff, Nat.reduceLT, Nat.reduceAdd, Nat.reduceSub, Nat.reduceMul, Int.reduceLT, Int.reduceLE, Int.reduceEq, Int.reduceAdd, Int.reduceSub, Int.reduceMul, Int.reduceNeg, Int.reduceToNat, reduceCtorEq, xq, yq, xo, yoM, yoA, yoP, yoS, eq_true d1, d2, xm, ym, xv, yv1, yv2]
              exact no (by unfold condG; rw [d5]; simp)
            | true =>
              rw [d5] at yv2
              simp only [↓STEP, SB, looked, behind, lookOk, AAct.kind, AOp.kind, wpRes, evRes, resV, AOp.ev, bin, binI, binS, shiftI, eqV, un, bound, boundO, fill, fillRows, aggOf, keyEq, findKey, putKey, V.cells, V.flat, byteOf, bytesOf, rdOf, H.wr, H.kOf, splice, isYl, ↓reduceIte, Nat.reduceEqDiff, Nat.reduceLeDiff, Nat.reduceLT, Nat.reduceAdd, Nat.reduceSub, Nat.reduceMul, Int.reduceLT, Int.reduceLE, Int.reduceEq, Int.reduceAdd, Int.reduceSub, Int.reduceMul, Int.reduceNeg, Int.reduceToNat, reduceCtorEq, xq, yq, xo, yoM, yoA, yoP, yoS, eq_true d1, d2, xm, ym, xv, yv1, yv2]
              have hcond : condG fs = true := by unfold condG; rw [hreq, decide_eq_true d1, decide_eq_false d2, d3, d4, d5]; rfl
              have hG1 : moreF 0 [] fs = none → askG fs ss = (5, []) := fun hx => by unfold askG; rw [if_neg (by rw [hcond]; simp), hx]
              have hG2 : ∀ more, moreF 0 [] fs = some more → askG fs ss = if ss.all okSt = false then (1, []) else if 16777215 < 6 * ss.length ∨ 16384 < 6 * ss.length then (2, [])
                  else if 16384 < (textG (ofF nM fs) (ofF nP fs) (ofF nA fs) (codeP (setB ss)) more).length then (2, []) else (0, textG (ofF nM fs) (ofF nP fs) (ofF nA fs) (codeP (setB ss)) more) := fun more hx => by
                unfold askG; rw [if_neg (by rw [hcond]; simp), hx]
              have lM := hs nM
              have lP := hs nP
              have lA := hs nA
              generalize ofF nM fs = vM at *
              generalize ofF nP fs = vP at *
              generalize ofF nA fs = vA at *
              clear yoM yoS yoA yoP yo hread yq no nilPost
              subst hlen
              refine wpA_loop_inv (RefLoop h fs p c ex (.sl q m c2 ex2) (.s vM) (.s vP) (.s vA)) ?_ (m := fs.length) ?_
              · rintro m' t g ⟨i, more, rfl, hi, e10, e9, e0, e1, e6, e7, e8, rfl, hmore, hml⟩
                by_cases hlt : i < fs.length
                · have hlt' : (i : Int) < (fs.length : Int) := by omega
                  obtain ⟨bb, r, all, ro, rfl, hbb, hgb, hat⟩ := hr.2.resolve_left (by omega)
                  have hrw : all[r + i]? = some [.s fs[i].n, .s fs[i].v, .b fs[i].z] := hat i _ (by rw [List.getElem?_map, List.getElem?_eq_getElem hlt]; rfl)
                  have hwr : Go.IntKind.wrap .i64 ((i : Int) + 1) = (i : Int) + 1 := wrap_i64 (by omega) (by omega)
                  have hd : fs.drop i = fs[i] :: fs.drop (i + 1) := List.drop_eq_getElem_cons hlt
                  have hsf := hsm fs[i] (List.getElem_mem hlt)
                  have hnzf := hnz fs[i] (List.getElem_mem hlt)
                  rw [hd, moreF] at hmore
                  generalize fs[i] = f at *
                  have stop_ : moreF 0 [] fs = none → AskPost g (askG fs ss).1 (askG fs ss).2 (.tup [.sl none 0 0 true, .i .i64 5]) g := fun hx => by
                    rw [hG1 hx]; exact ⟨Kept.refl, none, 0, 0, true, rfl, Nat.le_refl _, rdB_of bseg_zero fun b hb => by cases hb⟩
                  have go_on : ∀ more', moreF (i + 1) more' (fs.drop (i + 1)) = moreF 0 [] fs → more'.length ≤ 5000000 → ∀ t' : Tm, t'.v 10 = .i .i64 ((i : Int) + 1) → t'.v 9 = .s more' → t'.v 0 = t.v 0 → t'.v 1 = t.v 1 → t'.v 6 = t.v 6 → t'.v 7 = t.v 7 → t'.v 8 = t.v 8 →
                      ∃ m', m' < fs.length - i ∧ RefLoop g fs (some (bb, r)) c ex (.sl q m c2 ex2) (.s vM) (.s vP) (.s vA) m' t' g := fun more' h1 h2 t' q1 q2 q3 q4 q5 q6 q7 =>
                    ⟨_, by omega, i + 1, more', rfl, by omega, by rw [q1]; rfl, q2, by rw [q3, e0], by rw [q4, e1], by rw [q5, e6], by rw [q6, e7], by rw [q7, e8], rfl, h1, h2⟩
                  obtain ⟨c0, hc0⟩ : ∃ c0, f.n[0]? = some c0 := by
                    cases hfn : f.n with
                    | nil => exact absurd hfn hnzf
                    | cons c0 r => exact ⟨c0, rfl⟩
                  cases hz : f.z with
                  | true =>
                    rw [hz] at hrw
                    rw [if_pos (by unfold badF; rw [hz]; rfl)] at hmore
                    simp only [↓STEP, SB, looked, behind, lookOk, AAct.kind, AOp.kind, wpRes, evRes, resV, AOp.ev, bin, binI, binS, shiftI, eqV, un, bound, boundO, fill, fillRows, aggOf, keyEq, findKey, putKey, V.cells, V.flat, byteOf, bytesOf, rdOf, H.wr, H.kOf, splice, isYl, ↓reduceIte, Nat.reduceEqDiff, Nat.reduceLeDiff, Nat.reduceLT, Nat.reduceAdd, Nat.reduceSub, Nat.reduceMul, Int.reduceLT, Int.reduceLE, Int.reduceEq, Int.reduceAdd, Int.reduceSub, Int.reduceMul, Int.reduceNeg, Int.reduceToNat, reduceCtorEq, e10, e9, e0, e1, e6, e7, e8, hlt', hgb, hrw]
                    exact stop_ hmore.symm
                  | false =>
                    rw [hz] at hrw
                    by_cases i0 : i = 0
                    · have i0' := eq_true (show (i : Int) = 0 by omega)
                      by_cases hq0 : f.n = [58, 109, 101, 116, 104, 111, 100]
                      · have hx0 : f.n[0]? = some 58 := by rw [hq0]; rfl
                        rw [if_neg (by unfold badF; rw [hz]; simp [i0, hq0, nM]), if_pos hx0] at hmore
                        have h58 : (((58 : UInt8).toNat : Nat) : Int) = 58 := rfl
                        have m1 : ¬ (i : Int) = 1 := by omega
                        have m2 : ¬ (i : Int) = 2 := by omega
                        simp only [↓STEP, SB, looked, behind, lookOk, AAct.kind, AOp.kind, wpRes, evRes, resV, AOp.ev, bin, binI, binS, shiftI, eqV, un, bound, boundO, fill, fillRows, aggOf, keyEq, findKey, putKey, V.cells, V.flat, byteOf, bytesOf, rdOf, H.wr, H.kOf, splice, isYl, ↓reduceIte, Nat.reduceEqDiff, Nat.reduceLeDiff, Nat.reduceLT, Nat.reduceAdd, Nat.reduceSub, Nat.reduceMul, Int.reduceLT, Int.reduceLE, Int.reduceEq, Int.reduceAdd, Int.reduceSub, Int.reduceMul, Int.reduceNeg, Int.reduceToNat, reduceCtorEq, e10, e9, e0, e1, e6, e7, e8, hlt', hgb, hrw, i0', eq_true hq0, m1, m2, hx0, h58, hwr]
                        exact go_on more hmore hml _ (by simp [v_pd]) (by simp [v_pd, e9]) (by simp [v_pd, e0]) (by simp [v_pd, e1]) (by simp [v_pd, e6]) (by simp [v_pd, e7]) (by simp [v_pd, e8])
                      · rw [if_pos (by unfold badF; rw [decide_eq_true i0, decide_eq_false (show ¬ f.n = nM from hq0)]; simp)] at hmore
                        simp only [↓STEP, SB, looked, behind, lookOk, AAct.kind, AOp.kind, wpRes, evRes, resV, AOp.ev, bin, binI, binS, shiftI, eqV, un, bound, boundO, fill, fillRows, aggOf, keyEq, findKey, putKey, V.cells, V.flat, byteOf, bytesOf, rdOf, H.wr, H.kOf, splice, isYl, ↓reduceIte, Nat.reduceEqDiff, Nat.reduceLeDiff, Nat.reduceLT, Nat.reduceAdd, Nat.reduceSub, Nat.reduceMul, Int.reduceLT, Int.reduceLE, Int.reduceEq, Int.reduceAdd, Int.reduceSub, Int.reduceMul, Int.reduceNeg, Int.reduceToNat, reduceCtorEq, e10, e9, e0, e1, e6, e7, e8, hlt', hgb, hrw, i0', hq0]
                        exact stop_ hmore.symm
                    have n0 : ¬ (i : Int) = 0 := by omega
                    by_cases i1 : i = 1
                    · have i1' := eq_true (show (i : Int) = 1 by omega)
                      by_cases hq1 : f.n = [58, 115, 99, 104, 101, 109, 101]
                      · have hx0 : f.n[0]? = some 58 := by rw [hq1]; rfl
                        rw [if_neg (by unfold badF; rw [hz]; simp [i1, hq1, nS]), if_pos hx0] at hmore
                        have h58 : (((58 : UInt8).toNat : Nat) : Int) = 58 := rfl
                        have m2 : ¬ (i : Int) = 2 := by omega
                        simp only [↓STEP, SB, looked, behind, lookOk, AAct.kind, AOp.kind, wpRes, evRes, resV, AOp.ev, bin, binI, binS, shiftI, eqV, un, bound, boundO, fill, fillRows, aggOf, keyEq, findKey, putKey, V.cells, V.flat, byteOf, bytesOf, rdOf, H.wr, H.kOf, splice, isYl, ↓reduceIte, Nat.reduceEqDiff, Nat.reduceLeDiff, Nat.reduceLT, Nat.reduceAdd, Nat.reduceSub, Nat.reduceMul, Int.reduceLT, Int.reduceLE, Int.reduceEq, Int.reduceAdd, Int.reduceSub, Int.reduceMul, Int.reduceNeg, Int.reduceToNat, reduceCtorEq, e10, e9, e0, e1, e6, e7, e8, hlt', hgb, hrw, n0, i1', eq_true hq1, m2, hx0, h58, hwr]
                        exact go_on more hmore hml _ (by simp [v_pd]) (by simp [v_pd, e9]) (by simp [v_pd, e0]) (by simp [v_pd, e1]) (by simp [v_pd, e6]) (by simp [v_pd, e7]) (by simp [v_pd, e8])
                      · rw [if_pos (by unfold badF; rw [decide_eq_true i1, decide_eq_false (show ¬ f.n = nS from hq1)]; simp)] at hmore
                        simp only [↓STEP, SB, looked, behind, lookOk, AAct.kind, AOp.kind, wpRes, evRes, resV, AOp.ev, bin, binI, binS, shiftI, eqV, un, bound, boundO, fill, fillRows, aggOf, keyEq, findKey, putKey, V.cells, V.flat, byteOf, bytesOf, rdOf, H.wr, H.kOf, splice, isYl, ↓reduceIte, Nat.reduceEqDiff, Nat.reduceLeDiff, Nat.reduceLT, Nat.reduceAdd, Nat.reduceSub, Nat.reduceMul, Int.reduceLT, Int.reduceLE, Int.reduceEq, Int.reduceAdd, Int.reduceSub, Int.reduceMul, Int.reduceNeg, Int.reduceToNat, reduceCtorEq, e10, e9, e0, e1, e6, e7, e8, hlt', hgb, hrw, n0, i1', hq1]
                        exact stop_ hmore.symm
                    have n1 : ¬ (i : Int) = 1 := by omega
                    by_cases i2 : i = 2
                    · have i2' := eq_true (show (i : Int) = 2 by omega)
                      by_cases hq2 : f.n = [58, 97, 117, 116, 104, 111, 114, 105, 116, 121]
                      · have hx0 : f.n[0]? = some 58 := by rw [hq2]; rfl
                        rw [if_neg (by unfold badF; rw [hz]; simp [i2, hq2, nA]), if_pos hx0] at hmore
                        have h58 : (((58 : UInt8).toNat : Nat) : Int) = 58 := rfl
                        simp only [↓STEP, SB, looked, behind, lookOk, AAct.kind, AOp.kind, wpRes, evRes, resV, AOp.ev, bin, binI, binS, shiftI, eqV, un, bound, boundO, fill, fillRows, aggOf, keyEq, findKey, putKey, V.cells, V.flat, byteOf, bytesOf, rdOf, H.wr, H.kOf, splice, isYl, ↓reduceIte, Nat.reduceEqDiff, Nat.reduceLeDiff, Nat.reduceLT, Nat.reduceAdd, Nat.reduceSub, Nat.reduceMul, Int.reduceLT, Int.reduceLE, Int.reduceEq, Int.reduceAdd, Int.reduceSub, Int.reduceMul, Int.reduceNeg, Int.reduceToNat, reduceCtorEq, e10, e9, e0, e1, e6, e7, e8, hlt', hgb, hrw, n0, n1, i2', eq_true hq2, hx0, h58, hwr]
                        exact go_on more hmore hml _ (by simp [v_pd]) (by simp [v_pd, e9]) (by simp [v_pd, e0]) (by simp [v_pd, e1]) (by simp [v_pd, e6]) (by simp [v_pd, e7]) (by simp [v_pd, e8])
                      · rw [if_pos (by unfold badF; rw [decide_eq_true i2, decide_eq_false (show ¬ f.n = nA from hq2)]; simp)] at hmore
                        simp only [↓STEP, SB, looked, behind, lookOk, AAct.kind, AOp.kind, wpRes, evRes, resV, AOp.ev, bin, binI, binS, shiftI, eqV, un, bound, boundO, fill, fillRows, aggOf, keyEq, findKey, putKey, V.cells, V.flat, byteOf, bytesOf, rdOf, H.wr, H.kOf, splice, isYl, ↓reduceIte, Nat.reduceEqDiff, Nat.reduceLeDiff, Nat.reduceLT, Nat.reduceAdd, Nat.reduceSub, Nat.reduceMul, Int.reduceLT, Int.reduceLE, Int.reduceEq, Int.reduceAdd, Int.reduceSub, Int.reduceMul, Int.reduceNeg, Int.reduceToNat, reduceCtorEq, e10, e9, e0, e1, e6, e7, e8, hlt', hgb, hrw, n0, n1, i2', hq2]
                        exact stop_ hmore.symm
                    have n2 : ¬ (i : Int) = 2 := by omega
                    rw [if_neg (by unfold badF; rw [hz, decide_eq_false i0, decide_eq_false i1, decide_eq_false i2]; simp)] at hmore
                    by_cases hc : ((c0.toNat : Nat) : Int) = 58
                    · have hc58 : c0 = 58 := u8_inj (y := 58) hc
                      rw [if_pos (by rw [hc0, hc58])] at hmore
                      simp only [↓STEP, SB, looked, behind, lookOk, AAct.kind, AOp.kind, wpRes, evRes, resV, AOp.ev, bin, binI, binS, shiftI, eqV, un, bound, boundO, fill, fillRows, aggOf, keyEq, findKey, putKey, V.cells, V.flat, byteOf, bytesOf, rdOf, H.wr, H.kOf, splice, isYl, ↓reduceIte, Nat.reduceEqDiff, Nat.reduceLeDiff, Nat.reduceLT, Nat.reduceAdd, Nat.reduceSub, Nat.reduceMul, Int.reduceLT, Int.reduceLE, Int.reduceEq, Int.reduceAdd, Int.reduceSub, Int.reduceMul, Int.reduceNeg, Int.reduceToNat, reduceCtorEq, e10, e9, e0, e1, e6, e7, e8, hlt', hgb, hrw, n0, n1, n2, hc0, eq_true hc, hwr]
                      exact go_on more hmore hml _ (by simp [v_pd]) (by simp [v_pd, e9]) (by simp [v_pd, e0]) (by simp [v_pd, e1]) (by simp [v_pd, e6]) (by simp [v_pd, e7]) (by simp [v_pd, e8])
                    rw [if_neg (by rw [hc0]; intro hx; exact hc (by rw [Option.some.inj hx]; rfl))] at hmore
                    by_cases o0 : f.n = [104, 111, 115, 116]
                    · rw [if_pos (by unfold ownB; rw [decide_eq_true o0]; simp)] at hmore
                      simp only [↓STEP, SB, looked, behind, lookOk, AAct.kind, AOp.kind, wpRes, evRes, resV, AOp.ev, bin, binI, binS, shiftI, eqV, un, bound, boundO, fill, fillRows, aggOf, keyEq, findKey, putKey, V.cells, V.flat, byteOf, bytesOf, rdOf, H.wr, H.kOf, splice, isYl, ↓reduceIte, Nat.reduceEqDiff, Nat.reduceLeDiff, Nat.reduceLT, Nat.reduceAdd, Nat.reduceSub, Nat.reduceMul, Int.reduceLT, Int.reduceLE, Int.reduceEq, Int.reduceAdd, Int.reduceSub, Int.reduceMul, Int.reduceNeg, Int.reduceToNat, reduceCtorEq, e10, e9, e0, e1, e6, e7, e8, hlt', hgb, hrw, n0, n1, n2, hc0, hc, eq_true o0]
                      exact stop_ hmore.symm
                    by_cases o1 : f.n = [104, 116, 116, 112, 50, 45, 115, 101, 116, 116, 105, 110, 103, 115]
                    · rw [if_pos (by unfold ownB; rw [decide_eq_true o1]; simp)] at hmore
                      simp only [↓STEP, SB, looked, behind, lookOk, AAct.kind, AOp.kind, wpRes, evRes, resV, AOp.ev, bin, binI, binS, shiftI, eqV, un, bound, boundO, fill, fillRows, aggOf, keyEq, findKey, putKey, V.cells, V.flat, byteOf, bytesOf, rdOf, H.wr, H.kOf, splice, isYl, ↓reduceIte, Nat.reduceEqDiff, Nat.reduceLeDiff, Nat.reduceLT, Nat.reduceAdd, Nat.reduceSub, Nat.reduceMul, Int.reduceLT, Int.reduceLE, Int.reduceEq, Int.reduceAdd, Int.reduceSub, Int.reduceMul, Int.reduceNeg, Int.reduceToNat, reduceCtorEq, e10, e9, e0, e1, e6, e7, e8, hlt', hgb, hrw, n0, n1, n2, hc0, hc, o0, eq_true o1]
                      exact stop_ hmore.symm
                    by_cases o2 : f.n = [99, 111, 110, 116, 101, 110, 116, 45, 108, 101, 110, 103, 116, 104]
                    · rw [if_pos (by unfold ownB; rw [decide_eq_true o2]; simp)] at hmore
                      simp only [↓STEP, SB, looked, behind, lookOk, AAct.kind, AOp.kind, wpRes, evRes, resV, AOp.ev, bin, binI, binS, shiftI, eqV, un, bound, boundO, fill, fillRows, aggOf, keyEq, findKey, putKey, V.cells, V.flat, byteOf, bytesOf, rdOf, H.wr, H.kOf, splice, isYl, ↓reduceIte, Nat.reduceEqDiff, Nat.reduceLeDiff, Nat.reduceLT, Nat.reduceAdd, Nat.reduceSub, Nat.reduceMul, Int.reduceLT, Int.reduceLE, Int.reduceEq, Int.reduceAdd, Int.reduceSub, Int.reduceMul, Int.reduceNeg, Int.reduceToNat, reduceCtorEq, e10, e9, e0, e1, e6, e7, e8, hlt', hgb, hrw, n0, n1, n2, hc0, hc, o0, o1, eq_true o2]
                      exact stop_ hmore.symm
                    rw [if_neg (by unfold ownB; rw [decide_eq_false o0, decide_eq_false o1, decide_eq_false o2]; simp)] at hmore
                    have yv3 : gVis [.s f.v, .b true] g = some (.b (allP chT f.v), g) := if_pos (by omega)
                    cases hv : allP chT f.v with
                    | false =>
                      rw [hv] at yv3
                      rw [if_pos hv] at hmore
                      simp only [↓STEP, SB, looked, behind, lookOk, AAct.kind, AOp.kind, wpRes, evRes, resV, AOp.ev, bin, binI, binS, shiftI, eqV, un, bound, boundO, fill, fillRows, aggOf, keyEq, findKey, putKey, V.cells, V.flat, byteOf, bytesOf, rdOf, H.wr, H.kOf, splice, isYl, ↓reduceIte, Nat.reduceEqDiff, Nat.reduceLeDiff, Nat.reduceLT, Nat.reduceAdd, Nat.reduceSub, Nat.reduceMul, Int.reduceLT, Int.reduceLE, Int.reduceEq, Int.reduceAdd, Int.reduceSub, Int.reduceMul, Int.reduceNeg, Int.reduceToNat, reduceCtorEq, e10, e9, e0, e1, e6, e7, e8, hlt', hgb, hrw, n0, n1, n2, hc0, hc, o0, o1, o2, xv, yv3]
                      exact stop_ hmore.symm
                    | true =>
                      rw [hv] at yv3
                      rw [if_neg (by rw [hv]; simp)] at hmore
                      by_cases hm1 : ((more.length : Nat) : Int) ≤ 16384
                      · rw [if_pos (by omega)] at hmore
                        have l1 : f.n.length + 2 ≤ 140737488355328 := by omega
                        have l2 : (f.n ++ [58, 32]).length + f.v.length ≤ 140737488355328 := by simp; omega
                        have l3 : (f.n ++ [58, 32] ++ f.v).length + 2 ≤ 140737488355328 := by simp; omega
                        have l4 : more.length + (f.n ++ [58, 32] ++ f.v ++ [13, 10]).length ≤ 140737488355328 := by simp; omega
                        simp only [↓STEP, SB, looked, behind, lookOk, AAct.kind, AOp.kind, wpRes, evRes, resV, AOp.ev, bin, binI, binS, shiftI, eqV, un, bound, boundO, fill, fillRows, aggOf, keyEq, findKey, putKey, V.cells, V.flat, byteOf, bytesOf, rdOf, H.wr, H.kOf, splice, isYl, ↓reduceIte, Nat.reduceEqDiff, Nat.reduceLeDiff, Nat.reduceLT, Nat.reduceAdd, Nat.reduceSub, Nat.reduceMul, Int.reduceLT, Int.reduceLE, Int.reduceEq, Int.reduceAdd, Int.reduceSub, Int.reduceMul, Int.reduceNeg, Int.reduceToNat, reduceCtorEq, e10, e9, e0, e1, e6, e7, e8, hlt', hgb, hrw, n0, n1, n2, hc0, hc, o0, o1, o2, xv, yv3, hm1, l1, l2, l3, l4, hwr]
                        exact go_on (more ++ lineT f) hmore (by rw [List.length_append, lineT]; simp; omega) _ (by simp [v_pd]) (by simp [v_pd, lineT]) (by simp [v_pd, e0]) (by simp [v_pd, e1]) (by simp [v_pd, e6]) (by simp [v_pd, e7]) (by simp [v_pd, e8])
                      · rw [if_neg (by omega)] at hmore
                        simp only [↓STEP, SB, looked, behind, lookOk, AAct.kind, AOp.kind, wpRes, evRes, resV, AOp.ev, bin, binI, binS, shiftI, eqV, un, bound, boundO, fill, fillRows, aggOf, keyEq, findKey, putKey, V.cells, V.flat, byteOf, bytesOf, rdOf, H.wr, H.kOf, splice, isYl, ↓reduceIte, Nat.reduceEqDiff, Nat.reduceLeDiff, Nat.reduceLT, Nat.reduceAdd, Nat.reduceSub, Nat.reduceMul, Int.reduceLT, Int.reduceLE, Int.reduceEq, Int.reduceAdd, Int.reduceSub, Int.reduceMul, Int.reduceNeg, Int.reduceToNat, reduceCtorEq, e10, e9, e0, e1, e6, e7, e8, hlt', hgb, hrw, n0, n1, n2, hc0, hc, o0, o1, o2, xv, yv3, hm1, hwr]
                        exact go_on more hmore hml _ (by simp [v_pd]) (by simp [v_pd, e9]) (by simp [v_pd, e0]) (by simp [v_pd, e1]) (by simp [v_pd, e6]) (by simp [v_pd, e7]) (by simp [v_pd, e8])
                · have hil : i = fs.length := by omega
                  subst hil
                  have hlt' : ¬ (fs.length : Int) < (fs.length : Int) := by omega
                  rw [List.drop_length, moreF] at hmore
                  have hask := hG2 more hmore.symm
                  simp only [↓STEP, SB, looked, behind, lookOk, AAct.kind, AOp.kind, wpRes, evRes, resV, AOp.ev, bin, binI, binS, shiftI, eqV, un, bound, boundO, fill, fillRows, aggOf, keyEq, findKey, putKey, V.cells, V.flat, byteOf, bytesOf, rdOf, H.wr, H.kOf, splice, isYl, ↓reduceIte, Nat.reduceEqDiff, Nat.reduceLeDiff, Nat.reduceLT, Nat.reduceAdd, Nat.reduceSub, Nat.reduceMul, Int.reduceLT, Int.reduceLE, Int.reduceEq, Int.reduceAdd, Int.reduceSub, Int.reduceMul, Int.reduceNeg, Int.reduceToNat, reduceCtorEq, e10, e9, e0, e1, e6, e7, e8, hlt']
                  refine Runs.mono (c := .fn kmk) («as» := [.i .i64 4, .i .i64 0, .i .i64 0, .agg (bodyS q m c2 ex2)] ++ []) (make7_runs hmA hmf hwA hwf hwi hbe hrs (by omega)) ?_
                  have nilPost : ∀ e g', Kept g g' → askG fs ss = (e, []) → AskPost g (askG fs ss).1 (askG fs ss).2 (.tup [.sl none 0 0 true, .i .i64 e]) g' := fun e g' hk he => by
                    rw [he]; exact ⟨hk, none, 0, 0, true, rfl, Nat.le_refl _, rdB_of bseg_zero fun b hb => by cases hb⟩
                  rintro v2 g2 ⟨hk2, ⟨hok2, rfl⟩ | ⟨hok2, hbig, rfl⟩ | ⟨hok2, hbig, fa, fn, fex, rfl, hrd⟩⟩
                  · simp only [↓STEP, SB, looked, behind, lookOk, AAct.kind, AOp.kind, wpRes, evRes, resV, AOp.ev, bin, binI, binS, shiftI, eqV, un, bound, boundO, fill, fillRows, aggOf, keyEq, findKey, putKey, V.cells, V.flat, byteOf, bytesOf, rdOf, H.wr, H.kOf, splice, isYl, ↓reduceIte, Nat.reduceEqDiff, Nat.reduceLeDiff, Nat.reduceLT, Nat.reduceAdd, Nat.reduceSub, Nat.reduceMul, Int.reduceLT, Int.reduceLE, Int.reduceEq, Int.reduceAdd, Int.reduceSub, Int.reduceMul, Int.reduceNeg, Int.reduceToNat, reduceCtorEq, e10, e9, e0, e1, e6, e7, e8, frame0]
                    exact nilPost 1 _ (hk2.trans (by (repeat (first | exact Kept.refl | apply Kept.push | refine Kept.kill ?_ (by omega) | refine Kept.set ?_ (by omega))))) (by rw [hask, if_pos hok2])
                  · simp only [↓STEP, SB, looked, behind, lookOk, AAct.kind, AOp.kind, wpRes, evRes, resV, AOp.ev, bin, binI, binS, shiftI, eqV, un, bound, boundO, fill, fillRows, aggOf, keyEq, findKey, putKey, V.cells, V.flat, byteOf, bytesOf, rdOf, H.wr, H.kOf, splice, isYl, ↓reduceIte, Nat.reduceEqDiff, Nat.reduceLeDiff, Nat.reduceLT, Nat.reduceAdd, Nat.reduceSub, Nat.reduceMul, Int.reduceLT, Int.reduceLE, Int.reduceEq, Int.reduceAdd, Int.reduceSub, Int.reduceMul, Int.reduceNeg, Int.reduceToNat, reduceCtorEq, e10, e9, e0, e1, e6, e7, e8, frame0]
                    exact nilPost 2 _ (hk2.trans (by (repeat (first | exact Kept.refl | apply Kept.push | refine Kept.kill ?_ (by omega) | refine Kept.set ?_ (by omega))))) (by rw [hask, if_neg (by rw [hok2]; simp), if_pos (.inl hbig)])
                  · have hfnl : fn = 6 * ss.length := by have := rdB_len hrd; rw [setB_len] at this; exact this.symm
                    have hcl := codeP_len (setB ss)
                    rw [setB_len] at hcl
                    by_cases hp16 : (16384 : Int) < (fn : Int)
                    · simp only [↓STEP, SB, looked, behind, lookOk, AAct.kind, AOp.kind, wpRes, evRes, resV, AOp.ev, bin, binI, binS, shiftI, eqV, un, bound, boundO, fill, fillRows, aggOf, keyEq, findKey, putKey, V.cells, V.flat, byteOf, bytesOf, rdOf, H.wr, H.kOf, splice, isYl, ↓reduceIte, Nat.reduceEqDiff, Nat.reduceLeDiff, Nat.reduceLT, Nat.reduceAdd, Nat.reduceSub, Nat.reduceMul, Int.reduceLT, Int.reduceLE, Int.reduceEq, Int.reduceAdd, Int.reduceSub, Int.reduceMul, Int.reduceNeg, Int.reduceToNat, reduceCtorEq, e10, e9, e0, e1, e6, e7, e8, hp16]
                      exact nilPost 2 _ (hk2.trans (by (repeat (first | exact Kept.refl | apply Kept.push | refine Kept.kill ?_ (by omega) | refine Kept.set ?_ (by omega))))) (by rw [hask, if_neg (by rw [hok2]; simp), if_pos (.inr (by omega))])
                    · rw [if_neg (by rw [hok2]; simp), if_neg (by omega)] at hask
                      have ycc : gCode [.sl fa fn fn fex] ((g2.push (Blk.rows 4 [[V.i Go.IntKind.i64 0, V.i Go.IntKind.i64 0, V.i Go.IntKind.i64 0, V.sl none 0 0 true]] false)).set g2.nx (Blk.rows 4 [[V.i Go.IntKind.i64 4, V.i Go.IntKind.i64 0, V.i Go.IntKind.i64 0, V.sl fa fn fn fex]] false)) = some (.s (codeP (setB ss)), _) := gCode_eq (by omega) (rdB_kept hrd (by (repeat (first | exact Kept.refl | apply Kept.push | refine Kept.kill ?_ (by omega) | refine Kept.set ?_ (by omega)))))
                      have cg1 : vM.length + 1 ≤ 140737488355328 := by omega
                      have cg2 : (vM ++ [32]).length + (vP).length ≤ 140737488355328 := by simp; omega
                      have cg3 : (vM ++ [32] ++ vP).length + 17 ≤ 140737488355328 := by simp; omega
                      have cg4 : (vM ++ [32] ++ vP ++ [32, 72, 84, 84, 80, 47, 49, 46, 49, 13, 10, 72, 111, 115, 116, 58, 32]).length + (vA).length ≤ 140737488355328 := by simp; omega
                      have cg5 : (vM ++ [32] ++ vP ++ [32, 72, 84, 84, 80, 47, 49, 46, 49, 13, 10, 72, 111, 115, 116, 58, 32] ++ vA).length + 69 ≤ 140737488355328 := by simp; omega
                      have cg6 : (vM ++ [32] ++ vP ++ [32, 72, 84, 84, 80, 47, 49, 46, 49, 13, 10, 72, 111, 115, 116, 58, 32] ++ vA ++ [13, 10, 67, 111, 110, 110, 101, 99, 116, 105, 111, 110, 58, 32, 85, 112, 103, 114, 97, 100, 101, 44, 32, 72, 84, 84, 80, 50, 45, 83, 101, 116, 116, 105, 110, 103, 115, 13, 10, 85, 112, 103, 114, 97, 100, 101, 58, 32, 104, 50, 99, 13, 10, 72, 84, 84, 80, 50, 45, 83, 101, 116, 116, 105, 110, 103, 115, 58, 32]).length + (codeP (setB ss)).length ≤ 140737488355328 := by simp; omega
                      have cg7 : (vM ++ [32] ++ vP ++ [32, 72, 84, 84, 80, 47, 49, 46, 49, 13, 10, 72, 111, 115, 116, 58, 32] ++ vA ++ [13, 10, 67, 111, 110, 110, 101, 99, 116, 105, 111, 110, 58, 32, 85, 112, 103, 114, 97, 100, 101, 44, 32, 72, 84, 84, 80, 50, 45, 83, 101, 116, 116, 105, 110, 103, 115, 13, 10, 85, 112, 103, 114, 97, 100, 101, 58, 32, 104, 50, 99, 13, 10, 72, 84, 84, 80, 50, 45, 83, 101, 116, 116, 105, 110, 103, 115, 58, 32] ++ codeP (setB ss)).length + 2 ≤ 140737488355328 := by simp; omega
                      have cg8 : (vM ++ [32] ++ vP ++ [32, 72, 84, 84, 80, 47, 49, 46, 49, 13, 10, 72, 111, 115, 116, 58, 32] ++ vA ++ [13, 10, 67, 111, 110, 110, 101, 99, 116, 105, 111, 110, 58, 32, 85, 112, 103, 114, 97, 100, 101, 44, 32, 72, 84, 84, 80, 50, 45, 83, 101, 116, 116, 105, 110, 103, 115, 13, 10, 85, 112, 103, 114, 97, 100, 101, 58, 32, 104, 50, 99, 13, 10, 72, 84, 84, 80, 50, 45, 83, 101, 116, 116, 105, 110, 103, 115, 58, 32] ++ codeP (setB ss) ++ [13, 10]).length + (more).length ≤ 140737488355328 := by simp; omega
                      have cg9 : (vM ++ [32] ++ vP ++ [32, 72, 84, 84, 80, 47, 49, 46, 49, 13, 10, 72, 111, 115, 116, 58, 32] ++ vA ++ [13, 10, 67, 111, 110, 110, 101, 99, 116, 105, 111, 110, 58, 32, 85, 112, 103, 114, 97, 100, 101, 44, 32, 72, 84, 84, 80, 50, 45, 83, 101, 116, 116, 105, 110, 103, 115, 13, 10, 85, 112, 103, 114, 97, 100, 101, 58, 32, 104, 50, 99, 13, 10, 72, 84, 84, 80, 50, 45, 83, 101, 116, 116, 105, 110, 103, 115, 58, 32] ++ codeP (setB ss) ++ [13, 10] ++ more).length + 2 ≤ 140737488355328 := by simp; omega
                      have htx : vM ++ [32] ++ vP ++ [32, 72, 84, 84, 80, 47, 49, 46, 49, 13, 10, 72, 111, 115, 116, 58, 32] ++ vA ++ [13, 10, 67, 111, 110, 110, 101, 99, 116, 105, 111, 110, 58, 32, 85, 112, 103, 114, 97, 100, 101, 44, 32, 72, 84, 84, 80, 50, 45, 83, 101, 116, 116, 105, 110, 103, 115, 13, 10, 85, 112, 103, 114, 97, 100, 101, 58, 32, 104, 50, 99, 13, 10, 72, 84, 84, 80, 50, 45, 83, 101, 116, 116, 105, 110, 103, 115, 58, 32] ++ codeP (setB ss) ++ [13, 10] ++ more ++ [13, 10] = textG vM vP vA (codeP (setB ss)) more := rfl
                      generalize hT : textG vM vP vA (codeP (setB ss)) more = T at hask htx
                      have hk3 : Kept g ((g2.push (Blk.rows 4 [[V.i Go.IntKind.i64 0, V.i Go.IntKind.i64 0, V.i Go.IntKind.i64 0, V.sl none 0 0 true]] false)).set g2.nx (Blk.rows 4 [[V.i Go.IntKind.i64 4, V.i Go.IntKind.i64 0, V.i Go.IntKind.i64 0, V.sl fa fn fn fex]] false)) := hk2.trans (by (repeat (first | exact Kept.refl | apply Kept.push | refine Kept.kill ?_ (by omega) | refine Kept.set ?_ (by omega))))
                      by_cases hbig2 : (16384 : Int) < (T.length : Int)
                      · simp only [↓STEP, SB, looked, behind, lookOk, AAct.kind, AOp.kind, wpRes, evRes, resV, AOp.ev, bin, binI, binS, shiftI, eqV, un, bound, boundO, fill, fillRows, aggOf, keyEq, findKey, putKey, V.cells, V.flat, byteOf, bytesOf, rdOf, H.wr, H.kOf, splice, isYl, ↓reduceIte, Nat.reduceEqDiff, Nat.reduceLeDiff, Nat.reduceLT, Nat.reduceAdd, Nat.reduceSub, Nat.reduceMul, Int.reduceLT, Int.reduceLE, Int.reduceEq, Int.reduceAdd, Int.reduceSub, Int.reduceMul, Int.reduceNeg, Int.reduceToNat, reduceCtorEq, e10, e9, e0, e1, e6, e7, e8, hp16, xc, ycc, cg1, cg2, cg3, cg4, cg5, cg6, cg7, cg8, cg9, htx, hbig2]
                        exact nilPost 2 _ hk3 (by rw [hask, if_pos (by omega)])
                      · simp only [↓STEP, SB, looked, behind, lookOk, AAct.kind, AOp.kind, wpRes, evRes, resV, AOp.ev, bin, binI, binS, shiftI, eqV, un, bound, boundO, fill, fillRows, aggOf, keyEq, findKey, putKey, V.cells, V.flat, byteOf, bytesOf, rdOf, H.wr, H.kOf, splice, isYl, ↓reduceIte, Nat.reduceEqDiff, Nat.reduceLeDiff, Nat.reduceLT, Nat.reduceAdd, Nat.reduceSub, Nat.reduceMul, Int.reduceLT, Int.reduceLE, Int.reduceEq, Int.reduceAdd, Int.reduceSub, Int.reduceMul, Int.reduceNeg, Int.reduceToNat, reduceCtorEq, e10, e9, e0, e1, e6, e7, e8, hp16, xc, ycc, cg1, cg2, cg3, cg4, cg5, cg6, cg7, cg8, cg9, htx, hbig2]
                        rw [hask, if_neg (by omega)]
                        exact ⟨hk3.push, some (_, 0), T.length, T.length, false, rfl, Nat.le_refl _, rdB_of (bseg_tmp _ T) fun b hb => by cases hb; exact Nat.lt_succ_self _⟩
              · exact ⟨0, [], rfl, Nat.zero_le _, by simp [v_pd], by simp [v_pd], by simp [v_pd, v_args_cons], by simp [v_pd, v_args_cons], by simp [v_pd], by simp [v_pd], by simp [v_pd], rfl, rfl, Nat.zero_le _⟩
    · simp only [↓STEP, SB, looked, behind, lookOk, AAct.kind, AOp.kind, wpRes, evRes, resV, AOp.ev, bin, binI, binS, shiftI, eqV, un, bound, boundO, fill, fillRows, aggOf, keyEq, findKey, putKey, V.cells, V.flat, byteOf, bytesOf, rdOf, H.wr, H.kOf, splice, isYl, ↓reduceIte, Nat.reduceEqDiff, Nat.reduceLeDiff, Nat.reduceLT, Nat.reduceAdd, Nat.reduceSub, Nat.reduceMul, Int.reduceLT, Int.reduceLE, Int.reduceEq, Int.reduceAdd, Int.reduceSub, Int.reduceMul, Int.reduceNeg, Int.reduceToNat, reduceCtorEq, xq, yq, xo, yoM, yoA, yoP, yoS, d1]
      exact no (by unfold condG; rw [decide_eq_false d1]; simp)

end Am
