/- Asking for an upgrade: the heads of a list. -/
import Derived.Test.YtibmhhdgcbaofaaDoorAskA1
namespace Am
set_option linter.unusedVariables false
set_option linter.unusedSimpArgs false
set_option maxRecDepth 20000
set_option maxHeartbeats 8000000
variable {pr : Prog}

def nM : List UInt8 := [58, 109, 101, 116, 104, 111, 100]
def nS : List UInt8 := [58, 115, 99, 104, 101, 109, 101]
def nA : List UInt8 := [58, 97, 117, 116, 104, 111, 114, 105, 116, 121]
def nP : List UInt8 := [58, 112, 97, 116, 104]
def namesL : List (List UInt8) := [nM, nS, nA, nP]
def headF : Nat → List Fd → Bool
  | _, [] => true
  | i, f :: fs => !f.z && (if i < 4 then decide (f.n = namesL.getD i []) else !ownB f.n && allP chT f.v) && headF (i + 1) fs
def zipN (vs : List (List UInt8)) : PM := namesL.zip vs
theorem zipN_look {vs : List (List UInt8)} {j : Nat} (hl : vs.length ≤ 4) (hj : j < 4) : look (zipN vs) (namesL.getD j []) = vs[j]? := by
  match vs, hl, j, hj with
  | [], _, 0, _ => rfl
  | [], _, 1, _ => rfl
  | [], _, 2, _ => rfl
  | [], _, 3, _ => rfl
  | [a], _, 0, _ => rfl
  | [a], _, 1, _ => rfl
  | [a], _, 2, _ => rfl
  | [a], _, 3, _ => rfl
  | [a, b], _, 0, _ => rfl
  | [a, b], _, 1, _ => rfl
  | [a, b], _, 2, _ => rfl
  | [a, b], _, 3, _ => rfl
  | [a, b, c], _, 0, _ => rfl
  | [a, b, c], _, 1, _ => rfl
  | [a, b, c], _, 2, _ => rfl
  | [a, b, c], _, 3, _ => rfl
  | [a, b, c, d], _, 0, _ => rfl
  | [a, b, c, d], _, 1, _ => rfl
  | [a, b, c, d], _, 2, _ => rfl
  | [a, b, c, d], _, 3, _ => rfl
  | _ :: _ :: _ :: _ :: _ :: _, hl, _, _ => simp at hl
theorem zipN_more {vs : List (List UInt8)} (hl : vs.length < 4) (v : List UInt8) : zipN vs ++ [(namesL.getD vs.length [], v)] = zipN (vs ++ [v]) := by
  match vs, hl with
  | [], _ => rfl
  | [a], _ => rfl
  | [a, b], _ => rfl
  | [a, b, c], _ => rfl
  | _ :: _ :: _ :: _ :: _, hl => simp at hl <;> omega
def headVs (fs : List Fd) : List (List UInt8) := (fs.take 4).map Fd.v
def headOk (vs : List (List UInt8)) : Bool := decide ((vs[1]?).getD [] = [104, 116, 116, 112]) && !decide ((vs[2]?).getD [] = []) && allP chG ((vs[2]?).getD []) && methodB ((vs[0]?).getD []) && pathB ((vs[3]?).getD [])
def smallF (fs : List Fd) : Prop := ∀ f ∈ fs, f.n.length ≤ 2000000 ∧ f.v.length ≤ 2000000
def restP (p : Option (Nat × Nat)) (k : Nat) : Option (Nat × Nat) := p.map fun q => (q.1, q.2 + k)
def HeadsPost (h : H) (p : Option (Nat × Nat)) (c : Nat) (ex : Bool) (fs : List Fd) (v : V) (g : H) : Prop :=
  Kept h g ∧ ((headF 0 fs = false ∧ v = .tup [.m none, .sl none 0 0 true, .b false]) ∨
    (headF 0 fs = true ∧ ∃ b, v = .tup [.m (some b), .sl (restP p (min fs.length 4)) (fs.length - min fs.length 4) (c - min fs.length 4) ex, .b (headOk (headVs fs))] ∧ h.nx ≤ b ∧ b < g.nx ∧ g.get b = some (.map (ents (zipN (headVs fs))))))
def HdLoop (h : H) (p : Option (Nat × Nat)) (c : Nat) (ex : Bool) (fs : List Fd) (m : Nat) (t : Tm) (g : H) : Prop :=
  ∃ (i : Nat), m = fs.length - i ∧ i ≤ fs.length ∧ t.v 16 = .i .i64 (i : Nat) ∧ t.v 15 = .i .i64 fs.length ∧ t.v 14 = .sl p fs.length c ex ∧ t.v 0 = .sl p fs.length c ex ∧ t.v 5 = .m (some h.nx) ∧ t.v 6 = .sl (some (h.nx + 1, 0)) 4 4 true ∧
    Kept h g ∧ h.nx + 2 ≤ g.nx ∧ g.get h.nx = some (.map (ents (zipN ((fs.take (min i 4)).map Fd.v)))) ∧ g.get (h.nx + 1) = some (.rows 1 (namesL.map fun x => [.s x]) false) ∧ headF 0 fs = headF i (fs.drop i)

theorem heads_runs {ko ka kt kg kr km kp kh : Nat} (hA : pr.ext kh = none) (hfn : pr.fn kh = some (c_upgrade_heads ko ka kt kg km kp)) (hown : pr.ext ko = some (gTx ownB)) (hall : pr.ext ka = some (gAllB kg kt kr)) (hmeth : pr.ext km = some (gTx methodB)) (hpath : pr.ext kp = some (gTx pathB)) (hne : kt ≠ kg)
    {h : H} {p : Option (Nat × Nat)} {n c : Nat} {ex : Bool} {fs : List Fd} (hr : rowsIn h 3 p n (fs.map Fd.row)) (hn : n ≤ 10000000) (hsm : smallF fs) :
    Runs pr (.fn kh) [.sl p n c ex] h (HeadsPost h p c ex fs) := by
  have xo := @wpCall_ext pr ko _ hown
  have xa := @wpCall_ext pr ka _ hall
  have xm := @wpCall_ext pr km _ hmeth
  have xp := @wpCall_ext pr kp _ hpath
  obtain ⟨hlen, hrows⟩ := hr
  rw [List.length_map] at hlen
  subst hlen
  refine runs_of_wpF hA hfn ?_
  unfold wpF c_upgrade_heads
  refine ⟨by simp, ?_⟩
  simp only [↓STEP, SB, looked, behind, lookOk, AAct.kind, AOp.kind, wpRes, evRes, resV, AOp.ev, bin, binI, binS, shiftI, eqV, un, bound, boundO, fill, fillRows, aggOf, keyEq, findKey, putKey, V.cells, V.flat, byteOf, bytesOf, rdOf, H.wr, H.kOf, splice, isYl, ↓reduceIte, Nat.reduceEqDiff, Nat.reduceLeDiff, Nat.reduceLT, Nat.reduceAdd, Nat.reduceSub, Nat.reduceMul, Int.reduceLT, Int.reduceLE, Int.reduceEq, Int.reduceAdd, Int.reduceSub, Int.reduceMul, Int.reduceNeg, Int.reduceToNat, reduceCtorEq]
  refine wpA_loop_inv (HdLoop h p c ex fs) ?_ (m := fs.length) ?_
  · rintro m t g ⟨i, rfl, hi, e16, e15, e14, e0, e5, e6, hk, hnx, hmap, hnames, hhead⟩
    by_cases hlt : i < fs.length
    · have hlt' : (i : Int) < (fs.length : Int) := by omega
      obtain ⟨bb, r, all, ro, rfl, hbb, hgb, hat⟩ := hrows.resolve_left (by omega)
      have hgb' : g.get bb = some (.rows 3 all ro) := by rw [hk.2 bb hbb]; exact hgb
      have hrw : all[r + i]? = some [.s fs[i].n, .s fs[i].v, .b fs[i].z] := hat i _ (by rw [List.getElem?_map, List.getElem?_eq_getElem hlt]; rfl)
      have hwr : Go.IntKind.wrap .i64 ((i : Int) + 1) = (i : Int) + 1 := wrap_i64 (by omega) (by omega)
      have hd : fs.drop i = fs[i] :: fs.drop (i + 1) := List.drop_eq_getElem_cons hlt
      have hvs : ∀ j, j = i → i < 4 → (fs.take (min (i + 1) 4)).map Fd.v = (fs.take (min i 4)).map Fd.v ++ [fs[i].v] := by
        intro j hj h4
        rw [show min (i + 1) 4 = i + 1 by omega, show min i 4 = i by omega, List.take_add_one, List.getElem?_eq_getElem hlt, List.map_append]; rfl
      have hvl : ((fs.take (min i 4)).map Fd.v).length = min i 4 := by rw [List.length_map, List.length_take]; omega
      have hsmf := hsm fs[i] (List.getElem_mem hlt)
      rw [hd, headF] at hhead
      generalize fs[i] = f at *
      have nb : bb ≠ g.nx := by have := hk.1; omega
      have n1 : h.nx ≠ g.nx := by omega
      have n2 : h.nx + 1 ≠ g.nx := by omega
      have n3 : bb ≠ h.nx := by omega
      have n4 : g.nx ≠ h.nx := by omega
      have n5 : h.nx + 1 ≠ h.nx := by omega
      have bad : headF 0 fs = false → ∀ G, Kept h G → HeadsPost h (some (bb, r)) c ex fs (.tup [.m none, .sl none 0 0 true, .b false]) G := fun hx G hG => ⟨hG, .inl ⟨hx, rfl⟩⟩
      cases hz : f.z with
      | true =>
        rw [hz] at hrw hhead
        simp only [↓STEP, SB, looked, behind, lookOk, AAct.kind, AOp.kind, wpRes, evRes, resV, AOp.ev, bin, binI, binS, shiftI, eqV, un, bound, boundO, fill, fillRows, aggOf, keyEq, findKey, putKey, V.cells, V.flat, byteOf, bytesOf, rdOf, H.wr, H.kOf, splice, isYl, ↓reduceIte, Nat.reduceEqDiff, Nat.reduceLeDiff, Nat.reduceLT, Nat.reduceAdd, Nat.reduceSub, Nat.reduceMul, Int.reduceLT, Int.reduceLE, Int.reduceEq, Int.reduceAdd, Int.reduceSub, Int.reduceMul, Int.reduceNeg, Int.reduceToNat, reduceCtorEq, e16, e15, e14, e0, e5, e6, hlt', hgb', hrw, hnames, nb, n1, n2]
        exact bad (by rw [hhead]; rfl) _ (hk.trans (by (repeat (first | exact Kept.refl | apply Kept.push | refine Kept.kill ?_ (by omega) | refine Kept.set ?_ (by omega)))))
      | false =>
        rw [hz] at hrw hhead
        by_cases h4 : i < 4
        · have h4' : (i : Int) < 4 := by omega
          have hnm : (namesL.map fun x => [V.s x])[i]? = some [.s (namesL.getD i [])] := by
            match i, h4 with
            | 0, _ => rfl
            | 1, _ => rfl
            | 2, _ => rfl
            | 3, _ => rfl
          rw [if_pos h4] at hhead
          by_cases hq : f.n = namesL.getD i []
          · have hq' := eq_true hq
            have hput := putKey_new (namesL.getD i []) f.v (zipN ((fs.take (min i 4)).map Fd.v)) (by rw [zipN_look (by omega) h4, List.getElem?_eq_none (by omega)])
            have hzm := zipN_more (vs := (fs.take (min i 4)).map Fd.v) (by omega) f.v
            rw [hvl, show min i 4 = i by omega] at hzm
            rw [show min i 4 = i by omega, hzm] at hput
            have hvi := hvs i rfl h4
            rw [show min i 4 = i by omega] at hvi hmap
            rw [← hvi] at hput
            rw [← hq] at hput
            simp only [↓STEP, SB, looked, behind, lookOk, AAct.kind, AOp.kind, wpRes, evRes, resV, AOp.ev, bin, binI, binS, shiftI, eqV, un, bound, boundO, fill, fillRows, aggOf, keyEq, findKey, putKey, V.cells, V.flat, byteOf, bytesOf, rdOf, H.wr, H.kOf, splice, isYl, ↓reduceIte, Nat.reduceEqDiff, Nat.reduceLeDiff, Nat.reduceLT, Nat.reduceAdd, Nat.reduceSub, Nat.reduceMul, Int.reduceLT, Int.reduceLE, Int.reduceEq, Int.reduceAdd, Int.reduceSub, Int.reduceMul, Int.reduceNeg, Int.reduceToNat, reduceCtorEq, e16, e15, e14, e0, e5, e6, hlt', hgb', hrw, hnames, nb, n1, n2, n4, h4', hnm, hq', hmap, hput, hwr]
            refine ⟨_, by omega, i + 1, rfl, by omega, by simp [v_pd, v_pd0], by simp [v_pd, v_pd0, e15], by simp [v_pd, v_pd0, e14], by simp [v_pd, v_pd0, e0], by simp [v_pd, v_pd0, e5], by simp [v_pd, v_pd0, e6], ?_, ?_, ?_, ?_, ?_⟩
            · exact ((hk.push).set (by omega)).set (Nat.le_refl _)
            · simp only [↓STEP, SB, looked, behind, lookOk, AAct.kind, AOp.kind, wpRes, evRes, resV, AOp.ev, bin, binI, binS, shiftI, eqV, un, bound, boundO, fill, fillRows, aggOf, keyEq, findKey, putKey, V.cells, V.flat, byteOf, bytesOf, rdOf, H.wr, H.kOf, splice, isYl, ↓reduceIte, Nat.reduceEqDiff, Nat.reduceLeDiff, Nat.reduceLT, Nat.reduceAdd, Nat.reduceSub, Nat.reduceMul, Int.reduceLT, Int.reduceLE, Int.reduceEq, Int.reduceAdd, Int.reduceSub, Int.reduceMul, Int.reduceNeg, Int.reduceToNat, reduceCtorEq]; try omega
            · simp only [↓STEP, SB, looked, behind, lookOk, AAct.kind, AOp.kind, wpRes, evRes, resV, AOp.ev, bin, binI, binS, shiftI, eqV, un, bound, boundO, fill, fillRows, aggOf, keyEq, findKey, putKey, V.cells, V.flat, byteOf, bytesOf, rdOf, H.wr, H.kOf, splice, isYl, ↓reduceIte, Nat.reduceEqDiff, Nat.reduceLeDiff, Nat.reduceLT, Nat.reduceAdd, Nat.reduceSub, Nat.reduceMul, Int.reduceLT, Int.reduceLE, Int.reduceEq, Int.reduceAdd, Int.reduceSub, Int.reduceMul, Int.reduceNeg, Int.reduceToNat, reduceCtorEq]
            · simp only [↓STEP, SB, looked, behind, lookOk, AAct.kind, AOp.kind, wpRes, evRes, resV, AOp.ev, bin, binI, binS, shiftI, eqV, un, bound, boundO, fill, fillRows, aggOf, keyEq, findKey, putKey, V.cells, V.flat, byteOf, bytesOf, rdOf, H.wr, H.kOf, splice, isYl, ↓reduceIte, Nat.reduceEqDiff, Nat.reduceLeDiff, Nat.reduceLT, Nat.reduceAdd, Nat.reduceSub, Nat.reduceMul, Int.reduceLT, Int.reduceLE, Int.reduceEq, Int.reduceAdd, Int.reduceSub, Int.reduceMul, Int.reduceNeg, Int.reduceToNat, reduceCtorEq, n2, n5, hnames]
            · rw [hhead, decide_eq_true hq]; rfl
          · simp only [↓STEP, SB, looked, behind, lookOk, AAct.kind, AOp.kind, wpRes, evRes, resV, AOp.ev, bin, binI, binS, shiftI, eqV, un, bound, boundO, fill, fillRows, aggOf, keyEq, findKey, putKey, V.cells, V.flat, byteOf, bytesOf, rdOf, H.wr, H.kOf, splice, isYl, ↓reduceIte, Nat.reduceEqDiff, Nat.reduceLeDiff, Nat.reduceLT, Nat.reduceAdd, Nat.reduceSub, Nat.reduceMul, Int.reduceLT, Int.reduceLE, Int.reduceEq, Int.reduceAdd, Int.reduceSub, Int.reduceMul, Int.reduceNeg, Int.reduceToNat, reduceCtorEq, e16, e15, e14, e0, e5, e6, hlt', hgb', hrw, hnames, nb, n1, n2, h4', hnm, hq]
            exact bad (by rw [hhead, decide_eq_false hq]; rfl) _ (hk.trans (by (repeat (first | exact Kept.refl | apply Kept.push | refine Kept.kill ?_ (by omega) | refine Kept.set ?_ (by omega)))))
        · have h4' : ¬ (i : Int) < 4 := by omega
          rw [if_neg h4] at hhead
          have y1 := fun g => gTx_eq (p := ownB) (l := f.n) (h := g) (by omega)
          have y2 : ∀ g, gAllB kg kt kr [.s f.v, .f (.fn kt) []] g = some (.b (allP chT f.v), g) := fun g => by simp only [gAllB, if_pos (show f.v.length < 4611686018427387904 by omega), if_neg hne, if_true]
          have hmm : min (i + 1) 4 = min i 4 := by omega
          cases hv1 : ownB f.n with
          | true =>
            rw [hv1] at y1 hhead
            simp only [↓STEP, SB, looked, behind, lookOk, AAct.kind, AOp.kind, wpRes, evRes, resV, AOp.ev, bin, binI, binS, shiftI, eqV, un, bound, boundO, fill, fillRows, aggOf, keyEq, findKey, putKey, V.cells, V.flat, byteOf, bytesOf, rdOf, H.wr, H.kOf, splice, isYl, ↓reduceIte, Nat.reduceEqDiff, Nat.reduceLeDiff, Nat.reduceLT, Nat.reduceAdd, Nat.reduceSub, Nat.reduceMul, Int.reduceLT, Int.reduceLE, Int.reduceEq, Int.reduceAdd, Int.reduceSub, Int.reduceMul, Int.reduceNeg, Int.reduceToNat, reduceCtorEq, e16, e15, e14, e0, e5, e6, hlt', hgb', hrw, hnames, nb, n1, n2, h4', xo, y1]
            exact bad (by rw [hhead]; rfl) _ (hk.trans (by (repeat (first | exact Kept.refl | apply Kept.push | refine Kept.kill ?_ (by omega) | refine Kept.set ?_ (by omega)))))
          | false =>
            rw [hv1] at y1 hhead
            cases hv2 : allP chT f.v with
            | false =>
              rw [hv2] at y2 hhead
              simp only [↓STEP, SB, looked, behind, lookOk, AAct.kind, AOp.kind, wpRes, evRes, resV, AOp.ev, bin, binI, binS, shiftI, eqV, un, bound, boundO, fill, fillRows, aggOf, keyEq, findKey, putKey, V.cells, V.flat, byteOf, bytesOf, rdOf, H.wr, H.kOf, splice, isYl, ↓reduceIte, Nat.reduceEqDiff, Nat.reduceLeDiff, Nat.reduceLT, Nat.reduceAdd, Nat.reduceSub, Nat.reduceMul, Int.reduceLT, Int.reduceLE, Int.reduceEq, Int.reduceAdd, Int.reduceSub, Int.reduceMul, Int.reduceNeg, Int.reduceToNat, reduceCtorEq, e16, e15, e14, e0, e5, e6, hlt', hgb', hrw, hnames, nb, n1, n2, h4', xo, y1, xa, y2]
              exact bad (by rw [hhead]; rfl) _ (hk.trans (by (repeat (first | exact Kept.refl | apply Kept.push | refine Kept.kill ?_ (by omega) | refine Kept.set ?_ (by omega)))))
            | true =>
              rw [hv2] at y2 hhead
              simp only [↓STEP, SB, looked, behind, lookOk, AAct.kind, AOp.kind, wpRes, evRes, resV, AOp.ev, bin, binI, binS, shiftI, eqV, un, bound, boundO, fill, fillRows, aggOf, keyEq, findKey, putKey, V.cells, V.flat, byteOf, bytesOf, rdOf, H.wr, H.kOf, splice, isYl, ↓reduceIte, Nat.reduceEqDiff, Nat.reduceLeDiff, Nat.reduceLT, Nat.reduceAdd, Nat.reduceSub, Nat.reduceMul, Int.reduceLT, Int.reduceLE, Int.reduceEq, Int.reduceAdd, Int.reduceSub, Int.reduceMul, Int.reduceNeg, Int.reduceToNat, reduceCtorEq, e16, e15, e14, e0, e5, e6, hlt', hgb', hrw, hnames, nb, n1, n2, h4', xo, y1, xa, y2, hwr]
              refine ⟨_, by omega, i + 1, rfl, by omega, by simp [v_pd, v_pd0], by simp [v_pd, v_pd0, e15], by simp [v_pd, v_pd0, e14], by simp [v_pd, v_pd0, e0], by simp [v_pd, v_pd0, e5], by simp [v_pd, v_pd0, e6], ?_, ?_, ?_, ?_, ?_⟩
              · exact hk.trans (by (repeat (first | exact Kept.refl | apply Kept.push | refine Kept.kill ?_ (by omega) | refine Kept.set ?_ (by omega))))
              · simp only [↓STEP, SB, looked, behind, lookOk, AAct.kind, AOp.kind, wpRes, evRes, resV, AOp.ev, bin, binI, binS, shiftI, eqV, un, bound, boundO, fill, fillRows, aggOf, keyEq, findKey, putKey, V.cells, V.flat, byteOf, bytesOf, rdOf, H.wr, H.kOf, splice, isYl, ↓reduceIte, Nat.reduceEqDiff, Nat.reduceLeDiff, Nat.reduceLT, Nat.reduceAdd, Nat.reduceSub, Nat.reduceMul, Int.reduceLT, Int.reduceLE, Int.reduceEq, Int.reduceAdd, Int.reduceSub, Int.reduceMul, Int.reduceNeg, Int.reduceToNat, reduceCtorEq]; try omega
              · simp only [↓STEP, SB, looked, behind, lookOk, AAct.kind, AOp.kind, wpRes, evRes, resV, AOp.ev, bin, binI, binS, shiftI, eqV, un, bound, boundO, fill, fillRows, aggOf, keyEq, findKey, putKey, V.cells, V.flat, byteOf, bytesOf, rdOf, H.wr, H.kOf, splice, isYl, ↓reduceIte, Nat.reduceEqDiff, Nat.reduceLeDiff, Nat.reduceLT, Nat.reduceAdd, Nat.reduceSub, Nat.reduceMul, Int.reduceLT, Int.reduceLE, Int.reduceEq, Int.reduceAdd, Int.reduceSub, Int.reduceMul, Int.reduceNeg, Int.reduceToNat, reduceCtorEq, n1, hmm, hmap]
              · simp only [↓STEP, SB, looked, behind, lookOk, AAct.kind, AOp.kind, wpRes, evRes, resV, AOp.ev, bin, binI, binS, shiftI, eqV, un, bound, boundO, fill, fillRows, aggOf, keyEq, findKey, putKey, V.cells, V.flat, byteOf, bytesOf, rdOf, H.wr, H.kOf, splice, isYl, ↓reduceIte, Nat.reduceEqDiff, Nat.reduceLeDiff, Nat.reduceLT, Nat.reduceAdd, Nat.reduceSub, Nat.reduceMul, Int.reduceLT, Int.reduceLE, Int.reduceEq, Int.reduceAdd, Int.reduceSub, Int.reduceMul, Int.reduceNeg, Int.reduceToNat, reduceCtorEq, n2, hnames]
              · rw [hhead]; rfl
    · have hil : i = fs.length := by omega
      subst hil
      have hlt' : ¬ (fs.length : Int) < (fs.length : Int) := by omega
      rw [List.drop_length, headF] at hhead
      have hvs : (fs.take (min fs.length 4)).map Fd.v = headVs fs := by
        unfold headVs
        by_cases h4 : fs.length ≤ 4
        · rw [Nat.min_eq_left h4, List.take_length, List.take_of_length_le h4]
        · rw [Nat.min_eq_right (by omega)]
      rw [hvs] at hmap
      have hvl : (headVs fs).length ≤ 4 := by unfold headVs; rw [List.length_map, List.length_take]; omega
      have fk : ∀ j : Nat, j < 4 → findKey .str (.s (namesL.getD j [])) (ents (zipN (headVs fs))) = some (((headVs fs)[j]?).map .s) := fun j hj => by rw [findKey_ents, zipN_look hvl hj]
      have f0 : findKey .str (.s [58, 109, 101, 116, 104, 111, 100]) (ents (zipN (headVs fs))) = some (((headVs fs)[0]?).map .s) := fk 0 (by decide)
      have f1 : findKey .str (.s [58, 115, 99, 104, 101, 109, 101]) (ents (zipN (headVs fs))) = some (((headVs fs)[1]?).map .s) := fk 1 (by decide)
      have f2 : findKey .str (.s [58, 97, 117, 116, 104, 111, 114, 105, 116, 121]) (ents (zipN (headVs fs))) = some (((headVs fs)[2]?).map .s) := fk 2 (by decide)
      have f3 : findKey .str (.s [58, 112, 97, 116, 104]) (ents (zipN (headVs fs))) = some (((headVs fs)[3]?).map .s) := fk 3 (by decide)
      have hsv : ∀ x ∈ headVs fs, x.length ≤ 2000000 := fun x hx => by
        obtain ⟨f, hf, rfl⟩ := List.mem_map.1 hx
        have := hsm f (List.mem_of_mem_take hf)
        exact this.2
      have hvl2 : (headVs fs).length = min fs.length 4 := by unfold headVs; rw [List.length_map, List.length_take]; omega
      clear fk hvs
      have yg : ∀ (l : List UInt8) (g : H), l.length ≤ 2000000 → gAllB kg kt kr [.s l, .f (.fn kg) []] g = some (.b (allP chG l), g) := fun l g hl => by simp only [gAllB, if_pos (show l.length < 4611686018427387904 by omega), if_true]
      have ym := fun (l : List UInt8) (g : H) (hl : l.length ≤ 2000000) => gTx_eq (p := methodB) (l := l) (h := g) (by omega)
      have yp := fun (l : List UInt8) (g : H) (hl : l.length ≤ 2000000) => gTx_eq (p := pathB) (l := l) (h := g) (by omega)
      have hkb : ∀ x : Option Nat, fs.length - min fs.length 4 = fs.length - min fs.length 4 := fun _ => rfl
      have fin : ∀ ok : Bool, ok = headOk (headVs fs) → HeadsPost h p c ex fs (.tup [.m (some h.nx), .sl (restP p (min fs.length 4)) (fs.length - min fs.length 4) (c - min fs.length 4) ex, .b ok]) g := fun ok hok =>
        ⟨hk, .inr ⟨hhead, h.nx, by rw [hok], Nat.le_refl _, by omega, hmap⟩⟩
      have hkof : ∀ b r, p = some (b, r) → 0 < fs.length → g.get b = some (.rows 3 ((h.get b).elim [] fun x => match x with | .rows _ rs _ => rs | _ => []) ((h.get b).elim true fun x => match x with | .rows _ _ ro => ro | _ => true)) := by
        rintro b r rfl h0
        obtain ⟨bb, r', all, ro, e, hbb, hgb, _⟩ := hrows.resolve_left (by omega)
        cases e
        rw [hk.2 _ hbb, hgb]
        rfl
      generalize headVs fs = vs at *
      have hvc : (vs = [] ∧ fs.length = 0) ∨ (∃ a, vs = [a] ∧ fs.length = 1) ∨ (∃ a b, vs = [a, b] ∧ fs.length = 2) ∨ (∃ a b c, vs = [a, b, c] ∧ fs.length = 3) ∨ (∃ a b c d, vs = [a, b, c, d] ∧ fs.length = 4) ∨ (∃ a b c d, vs = [a, b, c, d] ∧ 4 < fs.length) := by
        match vs, hvl2 with
        | [], h => exact .inl ⟨rfl, by simp at h; omega⟩
        | [a], h => exact .inr (.inl ⟨a, rfl, by simp at h; omega⟩)
        | [a, b], h => exact .inr (.inr (.inl ⟨a, b, rfl, by simp at h; omega⟩))
        | [a, b, c], h => exact .inr (.inr (.inr (.inl ⟨a, b, c, rfl, by simp at h; omega⟩)))
        | [a, b, c, d], h =>
          simp at h
          by_cases h4 : 4 < fs.length
          · exact .inr (.inr (.inr (.inr (.inr ⟨a, b, c, d, rfl, h4⟩))))
          · exact .inr (.inr (.inr (.inr (.inl ⟨a, b, c, d, rfl, by omega⟩))))
        | _ :: _ :: _ :: _ :: _ :: _, h => simp at h; omega
      have hlt' : ¬ (fs.length : Int) < (fs.length : Int) := by omega
      rcases hvc with ⟨rfl, hL⟩ | ⟨a, rfl, hL⟩ | ⟨a, b, rfl, hL⟩ | ⟨a, b, c, rfl, hL⟩ | ⟨a, b, c, d, rfl, hL⟩ | ⟨a, b, c, d, rfl, hL⟩
      all_goals simp only [List.getElem?_cons_zero, List.getElem?_cons_succ, List.getElem?_nil, Option.map_some, Option.map_none] at f0 f1 f2 f3
      · rw [hL] at e16 e15 e14 e0 hlt' fin
        have hmn : ¬ ((4 : Nat) : Int) < ((0 : Nat) : Int) := by omega
        have hz0 : (0 : Int) ≤ 0 := Int.le_refl _
        have hz1 := hz0
        rcases p with _ | ⟨pb, pr0⟩
        · simp only [↓STEP, SB, looked, behind, lookOk, AAct.kind, AOp.kind, wpRes, evRes, resV, AOp.ev, bin, binI, binS, shiftI, eqV, un, bound, boundO, fill, fillRows, aggOf, keyEq, findKey, putKey, V.cells, V.flat, byteOf, bytesOf, rdOf, H.wr, H.kOf, splice, isYl, ↓reduceIte, Nat.reduceEqDiff, Nat.reduceLeDiff, Nat.reduceLT, Nat.reduceAdd, Nat.reduceSub, Nat.reduceMul, Int.reduceLT, Int.reduceLE, Int.reduceEq, Int.reduceAdd, Int.reduceSub, Int.reduceMul, Int.reduceNeg, Int.reduceToNat, reduceCtorEq, e16, e15, e14, e0, e5, e6, hlt', minV, hmn, hmap, f0, f1, f2, f3, Option.isSome_none, hz0, hz1]
          exact fin false (by simp [headOk])
        · simp only [↓STEP, SB, looked, behind, lookOk, AAct.kind, AOp.kind, wpRes, evRes, resV, AOp.ev, bin, binI, binS, shiftI, eqV, un, bound, boundO, fill, fillRows, aggOf, keyEq, findKey, putKey, V.cells, V.flat, byteOf, bytesOf, rdOf, H.wr, H.kOf, splice, isYl, ↓reduceIte, Nat.reduceEqDiff, Nat.reduceLeDiff, Nat.reduceLT, Nat.reduceAdd, Nat.reduceSub, Nat.reduceMul, Int.reduceLT, Int.reduceLE, Int.reduceEq, Int.reduceAdd, Int.reduceSub, Int.reduceMul, Int.reduceNeg, Int.reduceToNat, reduceCtorEq, e16, e15, e14, e0, e5, e6, hlt', minV, hmn, hmap, f0, f1, f2, f3, Option.isSome_none, hz0, hz1]
          exact fin false (by simp [headOk])
      · rw [hL] at e16 e15 e14 e0 hlt' fin
        have hmn : ¬ ((4 : Nat) : Int) < ((1 : Nat) : Int) := by omega
        obtain ⟨bb, r, all, ro, rfl, hbb, hgb, hat⟩ := hrows.resolve_left (by omega)
        have hz0 := hkof bb r rfl (by omega)
        have hz1 : ((1 : Nat) : Int) ≤ ((1 : Nat) : Int) := Int.le_refl _
        simp only [↓STEP, SB, looked, behind, lookOk, AAct.kind, AOp.kind, wpRes, evRes, resV, AOp.ev, bin, binI, binS, shiftI, eqV, un, bound, boundO, fill, fillRows, aggOf, keyEq, findKey, putKey, V.cells, V.flat, byteOf, bytesOf, rdOf, H.wr, H.kOf, splice, isYl, ↓reduceIte, Nat.reduceEqDiff, Nat.reduceLeDiff, Nat.reduceLT, Nat.reduceAdd, Nat.reduceSub, Nat.reduceMul, Int.reduceLT, Int.reduceLE, Int.reduceEq, Int.reduceAdd, Int.reduceSub, Int.reduceMul, Int.reduceNeg, Int.reduceToNat, reduceCtorEq, e16, e15, e14, e0, e5, e6, hlt', minV, hmn, hmap, f0, f1, f2, f3, Option.isSome_none, hz0, hz1]
        exact fin false (by simp [headOk])
      · rw [hL] at e16 e15 e14 e0 hlt' fin
        have hmn : ¬ ((4 : Nat) : Int) < ((2 : Nat) : Int) := by omega
        obtain ⟨bb, r, all, ro, rfl, hbb, hgb, hat⟩ := hrows.resolve_left (by omega)
        have hz0 := hkof bb r rfl (by omega)
        have hz1 : ((2 : Nat) : Int) ≤ ((2 : Nat) : Int) := Int.le_refl _
        by_cases t1 : b = [104, 116, 116, 112]
        · simp only [↓STEP, SB, looked, behind, lookOk, AAct.kind, AOp.kind, wpRes, evRes, resV, AOp.ev, bin, binI, binS, shiftI, eqV, un, bound, boundO, fill, fillRows, aggOf, keyEq, findKey, putKey, V.cells, V.flat, byteOf, bytesOf, rdOf, H.wr, H.kOf, splice, isYl, ↓reduceIte, Nat.reduceEqDiff, Nat.reduceLeDiff, Nat.reduceLT, Nat.reduceAdd, Nat.reduceSub, Nat.reduceMul, Int.reduceLT, Int.reduceLE, Int.reduceEq, Int.reduceAdd, Int.reduceSub, Int.reduceMul, Int.reduceNeg, Int.reduceToNat, reduceCtorEq, e16, e15, e14, e0, e5, e6, hlt', minV, hmn, hmap, f0, f1, f2, f3, Option.isSome_none, hz0, hz1, eq_true t1]
          exact fin false (by simp [headOk])
        · simp only [↓STEP, SB, looked, behind, lookOk, AAct.kind, AOp.kind, wpRes, evRes, resV, AOp.ev, bin, binI, binS, shiftI, eqV, un, bound, boundO, fill, fillRows, aggOf, keyEq, findKey, putKey, V.cells, V.flat, byteOf, bytesOf, rdOf, H.wr, H.kOf, splice, isYl, ↓reduceIte, Nat.reduceEqDiff, Nat.reduceLeDiff, Nat.reduceLT, Nat.reduceAdd, Nat.reduceSub, Nat.reduceMul, Int.reduceLT, Int.reduceLE, Int.reduceEq, Int.reduceAdd, Int.reduceSub, Int.reduceMul, Int.reduceNeg, Int.reduceToNat, reduceCtorEq, e16, e15, e14, e0, e5, e6, hlt', minV, hmn, hmap, f0, f1, f2, f3, Option.isSome_none, hz0, hz1, t1]
          exact fin false (by simp [headOk, t1])
      · rw [hL] at e16 e15 e14 e0 hlt' fin
        have hmn : ¬ ((4 : Nat) : Int) < ((3 : Nat) : Int) := by omega
        obtain ⟨bb, r, all, ro, rfl, hbb, hgb, hat⟩ := hrows.resolve_left (by omega)
        have hz0 := hkof bb r rfl (by omega)
        have hz1 : ((3 : Nat) : Int) ≤ ((3 : Nat) : Int) := Int.le_refl _
        by_cases t1 : b = [104, 116, 116, 112]
        · by_cases t2 : c = []
          · subst t2
            simp only [↓STEP, SB, looked, behind, lookOk, AAct.kind, AOp.kind, wpRes, evRes, resV, AOp.ev, bin, binI, binS, shiftI, eqV, un, bound, boundO, fill, fillRows, aggOf, keyEq, findKey, putKey, V.cells, V.flat, byteOf, bytesOf, rdOf, H.wr, H.kOf, splice, isYl, ↓reduceIte, Nat.reduceEqDiff, Nat.reduceLeDiff, Nat.reduceLT, Nat.reduceAdd, Nat.reduceSub, Nat.reduceMul, Int.reduceLT, Int.reduceLE, Int.reduceEq, Int.reduceAdd, Int.reduceSub, Int.reduceMul, Int.reduceNeg, Int.reduceToNat, reduceCtorEq, e16, e15, e14, e0, e5, e6, hlt', minV, hmn, hmap, f0, f1, f2, f3, Option.isSome_none, hz0, hz1, eq_true t1]
            exact fin false (by simp [headOk])
          · have y1 := fun g => yg c g (hsv c (by simp))
            have y2 := fun g => ym a g (hsv a (by simp))
            have y3 := fun g => yp [] g (by simp)
            cases t3 : allP chG c with
            | false =>
              rw [t3] at y1
              simp only [↓STEP, SB, looked, behind, lookOk, AAct.kind, AOp.kind, wpRes, evRes, resV, AOp.ev, bin, binI, binS, shiftI, eqV, un, bound, boundO, fill, fillRows, aggOf, keyEq, findKey, putKey, V.cells, V.flat, byteOf, bytesOf, rdOf, H.wr, H.kOf, splice, isYl, ↓reduceIte, Nat.reduceEqDiff, Nat.reduceLeDiff, Nat.reduceLT, Nat.reduceAdd, Nat.reduceSub, Nat.reduceMul, Int.reduceLT, Int.reduceLE, Int.reduceEq, Int.reduceAdd, Int.reduceSub, Int.reduceMul, Int.reduceNeg, Int.reduceToNat, reduceCtorEq, e16, e15, e14, e0, e5, e6, hlt', minV, hmn, hmap, f0, f1, f2, f3, Option.isSome_none, hz0, hz1, eq_true t1, t2, xa, y1]
              exact fin false (by simp [headOk, t3])
            | true =>
              rw [t3] at y1
              cases t4 : methodB a with
              | false =>
                rw [t4] at y2
                simp only [↓STEP, SB, looked, behind, lookOk, AAct.kind, AOp.kind, wpRes, evRes, resV, AOp.ev, bin, binI, binS, shiftI, eqV, un, bound, boundO, fill, fillRows, aggOf, keyEq, findKey, putKey, V.cells, V.flat, byteOf, bytesOf, rdOf, H.wr, H.kOf, splice, isYl, ↓reduceIte, Nat.reduceEqDiff, Nat.reduceLeDiff, Nat.reduceLT, Nat.reduceAdd, Nat.reduceSub, Nat.reduceMul, Int.reduceLT, Int.reduceLE, Int.reduceEq, Int.reduceAdd, Int.reduceSub, Int.reduceMul, Int.reduceNeg, Int.reduceToNat, reduceCtorEq, e16, e15, e14, e0, e5, e6, hlt', minV, hmn, hmap, f0, f1, f2, f3, Option.isSome_none, hz0, hz1, eq_true t1, t2, xa, y1, xm, y2]
                exact fin false (by simp [headOk, t4])
              | true =>
                rw [t4] at y2
                simp only [↓STEP, SB, looked, behind, lookOk, AAct.kind, AOp.kind, wpRes, evRes, resV, AOp.ev, bin, binI, binS, shiftI, eqV, un, bound, boundO, fill, fillRows, aggOf, keyEq, findKey, putKey, V.cells, V.flat, byteOf, bytesOf, rdOf, H.wr, H.kOf, splice, isYl, ↓reduceIte, Nat.reduceEqDiff, Nat.reduceLeDiff, Nat.reduceLT, Nat.reduceAdd, Nat.reduceSub, Nat.reduceMul, Int.reduceLT, Int.reduceLE, Int.reduceEq, Int.reduceAdd, Int.reduceSub, Int.reduceMul, Int.reduceNeg, Int.reduceToNat, reduceCtorEq, e16, e15, e14, e0, e5, e6, hlt', minV, hmn, hmap, f0, f1, f2, f3, Option.isSome_none, hz0, hz1, eq_true t1, t2, xa, y1, xm, y2, xp, y3]
                exact fin (pathB []) (by simp [headOk, t1, t2, t3, t4])
        · simp only [↓STEP, SB, looked, behind, lookOk, AAct.kind, AOp.kind, wpRes, evRes, resV, AOp.ev, bin, binI, binS, shiftI, eqV, un, bound, boundO, fill, fillRows, aggOf, keyEq, findKey, putKey, V.cells, V.flat, byteOf, bytesOf, rdOf, H.wr, H.kOf, splice, isYl, ↓reduceIte, Nat.reduceEqDiff, Nat.reduceLeDiff, Nat.reduceLT, Nat.reduceAdd, Nat.reduceSub, Nat.reduceMul, Int.reduceLT, Int.reduceLE, Int.reduceEq, Int.reduceAdd, Int.reduceSub, Int.reduceMul, Int.reduceNeg, Int.reduceToNat, reduceCtorEq, e16, e15, e14, e0, e5, e6, hlt', minV, hmn, hmap, f0, f1, f2, f3, Option.isSome_none, hz0, hz1, t1]
          exact fin false (by simp [headOk, t1])
      · rw [hL] at e16 e15 e14 e0 hlt' fin
        have hmn : ¬ ((4 : Nat) : Int) < ((4 : Nat) : Int) := by omega
        obtain ⟨bb, r, all, ro, rfl, hbb, hgb, hat⟩ := hrows.resolve_left (by omega)
        have hz0 := hkof bb r rfl (by omega)
        have hz1 : ((4 : Nat) : Int) ≤ ((4 : Nat) : Int) := Int.le_refl _
        by_cases t1 : b = [104, 116, 116, 112]
        · by_cases t2 : c = []
          · subst t2
            simp only [↓STEP, SB, looked, behind, lookOk, AAct.kind, AOp.kind, wpRes, evRes, resV, AOp.ev, bin, binI, binS, shiftI, eqV, un, bound, boundO, fill, fillRows, aggOf, keyEq, findKey, putKey, V.cells, V.flat, byteOf, bytesOf, rdOf, H.wr, H.kOf, splice, isYl, ↓reduceIte, Nat.reduceEqDiff, Nat.reduceLeDiff, Nat.reduceLT, Nat.reduceAdd, Nat.reduceSub, Nat.reduceMul, Int.reduceLT, Int.reduceLE, Int.reduceEq, Int.reduceAdd, Int.reduceSub, Int.reduceMul, Int.reduceNeg, Int.reduceToNat, reduceCtorEq, e16, e15, e14, e0, e5, e6, hlt', minV, hmn, hmap, f0, f1, f2, f3, Option.isSome_none, hz0, hz1, eq_true t1]
            exact fin false (by simp [headOk])
          · have y1 := fun g => yg c g (hsv c (by simp))
            have y2 := fun g => ym a g (hsv a (by simp))
            have y3 := fun g => yp d g (hsv d (by simp))
            cases t3 : allP chG c with
            | false =>
              rw [t3] at y1
              simp only [↓STEP, SB, looked, behind, lookOk, AAct.kind, AOp.kind, wpRes, evRes, resV, AOp.ev, bin, binI, binS, shiftI, eqV, un, bound, boundO, fill, fillRows, aggOf, keyEq, findKey, putKey, V.cells, V.flat, byteOf, bytesOf, rdOf, H.wr, H.kOf, splice, isYl, ↓reduceIte, Nat.reduceEqDiff, Nat.reduceLeDiff, Nat.reduceLT, Nat.reduceAdd, Nat.reduceSub, Nat.reduceMul, Int.reduceLT, Int.reduceLE, Int.reduceEq, Int.reduceAdd, Int.reduceSub, Int.reduceMul, Int.reduceNeg, Int.reduceToNat, reduceCtorEq, e16, e15, e14, e0, e5, e6, hlt', minV, hmn, hmap, f0, f1, f2, f3, Option.isSome_none, hz0, hz1, eq_true t1, t2, xa, y1]
              exact fin false (by simp [headOk, t3])
            | true =>
              rw [t3] at y1
              cases t4 : methodB a with
              | false =>
                rw [t4] at y2
                simp only [↓STEP, SB, looked, behind, lookOk, AAct.kind, AOp.kind, wpRes, evRes, resV, AOp.ev, bin, binI, binS, shiftI, eqV, un, bound, boundO, fill, fillRows, aggOf, keyEq, findKey, putKey, V.cells, V.flat, byteOf, bytesOf, rdOf, H.wr, H.kOf, splice, isYl, ↓reduceIte, Nat.reduceEqDiff, Nat.reduceLeDiff, Nat.reduceLT, Nat.reduceAdd, Nat.reduceSub, Nat.reduceMul, Int.reduceLT, Int.reduceLE, Int.reduceEq, Int.reduceAdd, Int.reduceSub, Int.reduceMul, Int.reduceNeg, Int.reduceToNat, reduceCtorEq, e16, e15, e14, e0, e5, e6, hlt', minV, hmn, hmap, f0, f1, f2, f3, Option.isSome_none, hz0, hz1, eq_true t1, t2, xa, y1, xm, y2]
                exact fin false (by simp [headOk, t4])
              | true =>
                rw [t4] at y2
                simp only [↓STEP, SB, looked, behind, lookOk, AAct.kind, AOp.kind, wpRes, evRes, resV, AOp.ev, bin, binI, binS, shiftI, eqV, un, bound, boundO, fill, fillRows, aggOf, keyEq, findKey, putKey, V.cells, V.flat, byteOf, bytesOf, rdOf, H.wr, H.kOf, splice, isYl, ↓reduceIte, Nat.reduceEqDiff, Nat.reduceLeDiff, Nat.reduceLT, Nat.reduceAdd, Nat.reduceSub, Nat.reduceMul, Int.reduceLT, Int.reduceLE, Int.reduceEq, Int.reduceAdd, Int.reduceSub, Int.reduceMul, Int.reduceNeg, Int.reduceToNat, reduceCtorEq, e16, e15, e14, e0, e5, e6, hlt', minV, hmn, hmap, f0, f1, f2, f3, Option.isSome_none, hz0, hz1, eq_true t1, t2, xa, y1, xm, y2, xp, y3]
                exact fin (pathB d) (by simp [headOk, t1, t2, t3, t4])
        · simp only [↓STEP, SB, looked, behind, lookOk, AAct.kind, AOp.kind, wpRes, evRes, resV, AOp.ev, bin, binI, binS, shiftI, eqV, un, bound, boundO, fill, fillRows, aggOf, keyEq, findKey, putKey, V.cells, V.flat, byteOf, bytesOf, rdOf, H.wr, H.kOf, splice, isYl, ↓reduceIte, Nat.reduceEqDiff, Nat.reduceLeDiff, Nat.reduceLT, Nat.reduceAdd, Nat.reduceSub, Nat.reduceMul, Int.reduceLT, Int.reduceLE, Int.reduceEq, Int.reduceAdd, Int.reduceSub, Int.reduceMul, Int.reduceNeg, Int.reduceToNat, reduceCtorEq, e16, e15, e14, e0, e5, e6, hlt', minV, hmn, hmap, f0, f1, f2, f3, Option.isSome_none, hz0, hz1, t1]
          exact fin false (by simp [headOk, t1])
      · have hmn : (4 : Int) < (fs.length : Int) := by omega
        rw [Nat.min_eq_right (by omega)] at fin
        obtain ⟨bb, r, all, ro, rfl, hbb, hgb, hat⟩ := hrows.resolve_left (by omega)
        have hz0 := hkof bb r rfl (by omega)
        have hz1 : (4 : Int) ≤ (fs.length : Int) := by omega
        by_cases t1 : b = [104, 116, 116, 112]
        · by_cases t2 : c = []
          · subst t2
            simp only [↓STEP, SB, looked, behind, lookOk, AAct.kind, AOp.kind, wpRes, evRes, resV, AOp.ev, bin, binI, binS, shiftI, eqV, un, bound, boundO, fill, fillRows, aggOf, keyEq, findKey, putKey, V.cells, V.flat, byteOf, bytesOf, rdOf, H.wr, H.kOf, splice, isYl, ↓reduceIte, Nat.reduceEqDiff, Nat.reduceLeDiff, Nat.reduceLT, Nat.reduceAdd, Nat.reduceSub, Nat.reduceMul, Int.reduceLT, Int.reduceLE, Int.reduceEq, Int.reduceAdd, Int.reduceSub, Int.reduceMul, Int.reduceNeg, Int.reduceToNat, reduceCtorEq, e16, e15, e14, e0, e5, e6, hlt', minV, hmn, hmap, f0, f1, f2, f3, Option.isSome_none, hz0, hz1, eq_true t1]
            exact fin false (by simp [headOk])
          · have y1 := fun g => yg c g (hsv c (by simp))
            have y2 := fun g => ym a g (hsv a (by simp))
            have y3 := fun g => yp d g (hsv d (by simp))
            cases t3 : allP chG c with
            | false =>
              rw [t3] at y1
              simp only [↓STEP, SB, looked, behind, lookOk, AAct.kind, AOp.kind, wpRes, evRes, resV, AOp.ev, bin, binI, binS, shiftI, eqV, un, bound, boundO, fill, fillRows, aggOf, keyEq, findKey, putKey, V.cells, V.flat, byteOf, bytesOf, rdOf, H.wr, H.kOf, splice, isYl, ↓reduceIte, Nat.reduceEqDiff, Nat.reduceLeDiff, Nat.reduceLT, Nat.reduceAdd, Nat.reduceSub, Nat.reduceMul, Int.reduceLT, Int.reduceLE, Int.reduceEq, Int.reduceAdd, Int.reduceSub, Int.reduceMul, Int.reduceNeg, Int.reduceToNat, reduceCtorEq, e16, e15, e14, e0, e5, e6, hlt', minV, hmn, hmap, f0, f1, f2, f3, Option.isSome_none, hz0, hz1, eq_true t1, t2, xa, y1]
              exact fin false (by simp [headOk, t3])
            | true =>
              rw [t3] at y1
              cases t4 : methodB a with
              | false =>
                rw [t4] at y2
                simp only [↓STEP, SB, looked, behind, lookOk, AAct.kind, AOp.kind, wpRes, evRes, resV, AOp.ev, bin, binI, binS, shiftI, eqV, un, bound, boundO, fill, fillRows, aggOf, keyEq, findKey, putKey, V.cells, V.flat, byteOf, bytesOf, rdOf, H.wr, H.kOf, splice, isYl, ↓reduceIte, Nat.reduceEqDiff, Nat.reduceLeDiff, Nat.reduceLT, Nat.reduceAdd, Nat.reduceSub, Nat.reduceMul, Int.reduceLT, Int.reduceLE, Int.reduceEq, Int.reduceAdd, Int.reduceSub, Int.reduceMul, Int.reduceNeg, Int.reduceToNat, reduceCtorEq, e16, e15, e14, e0, e5, e6, hlt', minV, hmn, hmap, f0, f1, f2, f3, Option.isSome_none, hz0, hz1, eq_true t1, t2, xa, y1, xm, y2]
                exact fin false (by simp [headOk, t4])
              | true =>
                rw [t4] at y2
                simp only [↓STEP, SB, looked, behind, lookOk, AAct.kind, AOp.kind, wpRes, evRes, resV, AOp.ev, bin, binI, binS, shiftI, eqV, un, bound, boundO, fill, fillRows, aggOf, keyEq, findKey, putKey, V.cells, V.flat, byteOf, bytesOf, rdOf, H.wr, H.kOf, splice, isYl, ↓reduceIte, Nat.reduceEqDiff, Nat.reduceLeDiff, Nat.reduceLT, Nat.reduceAdd, Nat.reduceSub, Nat.reduceMul, Int.reduceLT, Int.reduceLE, Int.reduceEq, Int.reduceAdd, Int.reduceSub, Int.reduceMul, Int.reduceNeg, Int.reduceToNat, reduceCtorEq, e16, e15, e14, e0, e5, e6, hlt', minV, hmn, hmap, f0, f1, f2, f3, Option.isSome_none, hz0, hz1, eq_true t1, t2, xa, y1, xm, y2, xp, y3]
                exact fin (pathB d) (by simp [headOk, t1, t2, t3, t4])
        · simp only [↓STEP, SB, looked, behind, lookOk, AAct.kind, AOp.kind, wpRes, evRes, resV, AOp.ev, bin, binI, binS, shiftI, eqV, un, bound, boundO, fill, fillRows, aggOf, keyEq, findKey, putKey, V.cells, V.flat, byteOf, bytesOf, rdOf, H.wr, H.kOf, splice, isYl, ↓reduceIte, Nat.reduceEqDiff, Nat.reduceLeDiff, Nat.reduceLT, Nat.reduceAdd, Nat.reduceSub, Nat.reduceMul, Int.reduceLT, Int.reduceLE, Int.reduceEq, Int.reduceAdd, Int.reduceSub, Int.reduceMul, Int.reduceNeg, Int.reduceToNat, reduceCtorEq, e16, e15, e14, e0, e5, e6, hlt', minV, hmn, hmap, f0, f1, f2, f3, Option.isSome_none, hz0, hz1, t1]
          exact fin false (by simp [headOk, t1])
  · refine ⟨0, rfl, Nat.zero_le _, by simp [v_pd], by simp [v_pd, v_args_cons], by simp [v_pd, v_args_cons], by simp [v_pd, v_args_cons], by simp [v_pd], by simp [v_pd], by (repeat (first | exact Kept.refl | apply Kept.push | refine Kept.kill ?_ (by omega) | refine Kept.set ?_ (by omega))), ?_, ?_, ?_, rfl⟩
    · simp only [↓STEP, SB, looked, behind, lookOk, AAct.kind, AOp.kind, wpRes, evRes, resV, AOp.ev, bin, binI, binS, shiftI, eqV, un, bound, boundO, fill, fillRows, aggOf, keyEq, findKey, putKey, V.cells, V.flat, byteOf, bytesOf, rdOf, H.wr, H.kOf, splice, isYl, ↓reduceIte, Nat.reduceEqDiff, Nat.reduceLeDiff, Nat.reduceLT, Nat.reduceAdd, Nat.reduceSub, Nat.reduceMul, Int.reduceLT, Int.reduceLE, Int.reduceEq, Int.reduceAdd, Int.reduceSub, Int.reduceMul, Int.reduceNeg, Int.reduceToNat, reduceCtorEq]; try omega
    · simp only [↓STEP, SB, looked, behind, lookOk, AAct.kind, AOp.kind, wpRes, evRes, resV, AOp.ev, bin, binI, binS, shiftI, eqV, un, bound, boundO, fill, fillRows, aggOf, keyEq, findKey, putKey, V.cells, V.flat, byteOf, bytesOf, rdOf, H.wr, H.kOf, splice, isYl, ↓reduceIte, Nat.reduceEqDiff, Nat.reduceLeDiff, Nat.reduceLT, Nat.reduceAdd, Nat.reduceSub, Nat.reduceMul, Int.reduceLT, Int.reduceLE, Int.reduceEq, Int.reduceAdd, Int.reduceSub, Int.reduceMul, Int.reduceNeg, Int.reduceToNat, reduceCtorEq]; rfl
    · simp only [↓STEP, SB, looked, behind, lookOk, AAct.kind, AOp.kind, wpRes, evRes, resV, AOp.ev, bin, binI, binS, shiftI, eqV, un, bound, boundO, fill, fillRows, aggOf, keyEq, findKey, putKey, V.cells, V.flat, byteOf, bytesOf, rdOf, H.wr, H.kOf, splice, isYl, ↓reduceIte, Nat.reduceEqDiff, Nat.reduceLeDiff, Nat.reduceLT, Nat.reduceAdd, Nat.reduceSub, Nat.reduceMul, Int.reduceLT, Int.reduceLE, Int.reduceEq, Int.reduceAdd, Int.reduceSub, Int.reduceMul, Int.reduceNeg, Int.reduceToNat, reduceCtorEq]; rfl

end Am
