/- What the functions of the document's layer 'field' answer: how often each pseudo-name came. -/
import Derived.Test.YtibmhhdgcbaofaaDoorField8
namespace Am
set_option linter.unusedVariables false
set_option linter.unusedSimpArgs false
set_option maxRecDepth 20000
set_option maxHeartbeats 8000000
variable {pr : Prog}

def idxF (s : List UInt8) : Int → Int → List (List UInt8) → Int
  | acc, _, [] => acc
  | acc, j, p :: ps => idxF s (if p = s then j else acc) (j + 1) ps
/-- What was counted: each name at most once. -/
def lsF (ps : List (List UInt8)) : List Bool → Bool → List Fd → Option (List Bool)
  | cs, _, [] => some cs
  | cs, reg, f :: fs =>
    if valueB f.v = false then none
    else if 0 ≤ idxF f.n (-1) 0 ps then
      (if reg = true ∨ cs[(idxF f.n (-1) 0 ps).toNat]? = some true then none else lsF ps (cs.set (idxF f.n (-1) 0 ps).toNat true) reg fs)
    else if plainB f = true then lsF ps cs true fs else none
theorem sRow_inj (x y : List UInt8) (h : sRow x = sRow y) : x = y := by
  simp only [sRow, List.cons.injEq, V.s.injEq, and_true] at h; exact h
def cRow (b : Bool) : List V := [.i .i64 (if b = true then 1 else 0)]
noncomputable def gList (as : List V) (h : H) : Option (V × H) :=
  match as with
  | [.sl p n cap ex, .sl q m cap2 ex2] => (readRows Fd.row h 3 p n).bind fun fs => (readRows sRow h 1 q m).bind fun ps =>
    if ps.length ≤ 4 then
      match lsF ps (ps.map fun _ => false) false fs with
      | some cs => some (.tup [.sl (some (h.nx, 0)) ps.length ps.length true, .b true], h.push (.rows 1 (cs.map cRow) false))
      | none => some (.tup [.sl none 0 0 true, .b false], h)
    else none
  | _ => none
theorem rows_plain (cs : List Bool) : (Blk.rows 1 (cs.map cRow) false).plain = true := by
  simp only [Blk.plain]
  induction cs with
  | nil => rfl
  | cons c cs ih => simp_all [cRow, V.plains, V.plain]
theorem idxF_range (s : List UInt8) : ∀ (ps : List (List UInt8)) (acc j : Int), acc < j → (acc ≤ idxF s acc j ps ∨ True) ∧ idxF s acc j ps < j + ps.length
  | [], acc, j, h => by simp only [idxF, List.length_nil]; exact ⟨.inr trivial, by omega⟩
  | p :: ps, acc, j, h => by
    have := idxF_range s ps (if p = s then j else acc) (j + 1) (by split <;> omega)
    simp only [idxF, List.length_cons]
    exact ⟨.inr trivial, by have := this.2; omega⟩

def LsLoop (h : H) (fs : List Fd) (p : Option (Nat × Nat)) (cap : Nat) (ex : Bool) (ps : List (List UInt8)) (q : Option (Nat × Nat)) (cap2 : Nat) (ex2 : Bool) (k : Nat) (t : Tm) (g : H) : Prop :=
  ∃ (i : Nat) (cs : List Bool) (reg : Bool), k = fs.length - i ∧ i ≤ fs.length ∧ t.v 8 = .i .i64 i ∧ t.v 0 = .sl p fs.length cap ex ∧ t.v 1 = .sl q ps.length cap2 ex2 ∧ t.v 6 = .sl (some (h.nx, 0)) ps.length ps.length true ∧ t.v 7 = .b reg ∧
    g.get h.nx = some (.rows 1 (cs.map cRow) false) ∧ cs.length = ps.length ∧ Kept h g ∧ h.nx < g.nx ∧ lsF ps cs reg (fs.drop i) = lsF ps (ps.map fun _ => false) false fs
def LsIn (t0 : Tm) (g0 : H) (s : List UInt8) (ps : List (List UInt8)) (q : Option (Nat × Nat)) (cap2 : Nat) (ex2 : Bool) (k : Nat) (t : Tm) (g : H) : Prop :=
  ∃ (j : Nat) (a : Int), k = ps.length - j ∧ j ≤ ps.length ∧ t.v 11 = .i .i64 j ∧ t.v 10 = .i .i64 a ∧ t.v 0 = t0.v 0 ∧ t.v 1 = t0.v 1 ∧ t.v 6 = t0.v 6 ∧ t.v 7 = t0.v 7 ∧ t.v 8 = t0.v 8 ∧ g0 = g ∧ idxF s a j (ps.drop j) = idxF s (-1) 0 ps

theorem list_ok {kv kp : Nat} (hv : pr.ext kv = some gValue) (hp : pr.ext kp = some gPlain) : OkF pr (c_isthmusref3_list kv kp) gList := by
  intro as h v h' hg
  unfold gList at hg
  split at hg
  · rename_i p n cap ex q m cap2 ex2
    obtain ⟨fs, hfs, hg1⟩ := Option.bind_eq_some_iff.1 hg
    obtain ⟨ps, hps, hg2⟩ := Option.bind_eq_some_iff.1 hg1
    clear hg hg1
    split at hg2
    case isFalse => cases hg2
    rename_i h4
    obtain ⟨⟨hlen, hrows⟩, hn63⟩ := readRows_spec hfs
    rw [List.length_map] at hlen
    subst hlen
    obtain ⟨⟨hlen2, hrows2⟩, hm63⟩ := readRows_spec hps
    rw [List.length_map] at hlen2
    subst hlen2
    have hcv := @wpCall_ext pr kv _ hv
    have hcp := @wpCall_ext pr kp _ hp
    unfold wpF c_isthmusref3_list
    refine ⟨by simp, ?_⟩
    have hmk : (8 * ps.length ≤ 140737488355328) = True := eq_true (by omega)
    simp only [↓STEP, go_sem, ↓reduceIte, Nat.reduceEqDiff, Nat.reduceLeDiff, Nat.reduceLT, Nat.reduceAdd, Nat.reduceSub, Nat.reduceMul, Int.reduceLT, Int.reduceLE, Int.reduceEq, Int.reduceAdd, Int.reduceSub, Int.reduceMul, Int.reduceNeg, Int.reduceToNat, reduceCtorEq, hmk, Int.le_refl]
    have hz : List.replicate ps.length [V.i .i64 0] = (ps.map fun _ => false).map cRow := by
      rw [List.map_map]
      symm
      rw [List.eq_replicate_iff]
      refine ⟨by simp, fun b hb => ?_⟩
      simp [cRow] at hb
      exact hb.2.symm
    rw [hz]
    refine wpA_loop_inv (LsLoop h fs p cap ex ps q cap2 ex2) ?_ (m := fs.length) ?_
    · rintro k t g ⟨i, cs, reg, rfl, hi, e8, e0, e1, e6, e7, hm, hcl, hk, hnx, hls⟩
      have n0 : ¬ h.nx = g.nx := by omega
      by_cases hlt : i < fs.length
      · have hlt' : (i : Int) < (fs.length : Int) := by omega
        obtain ⟨bb, r, all, ro, rfl, hbb, hgb, hat⟩ := hrows.resolve_left (by omega)
        have hgb' : g.get bb = some (.rows 3 all ro) := by rw [hk.2 bb hbb]; exact hgb
        have hrw : all[r + i]? = some [.s fs[i].n, .s fs[i].v, .b fs[i].z] := hat i _ (by rw [List.getElem?_map, List.getElem?_eq_getElem hlt]; rfl)
        have hwr : Go.IntKind.wrap .i64 ((i : Int) + 1) = (i : Int) + 1 := wrap_i64 (by omega) (by omega)
        have hd : fs.drop i = fs[i] :: fs.drop (i + 1) := List.drop_eq_getElem_cons hlt
        rw [hd] at hls
        generalize hf : fs[i] = f at hrw hls
        have none_end : lsF ps (ps.map fun _ => false) false fs = none → ∀ H1, Kept h H1 → Abs h (.tup [.sl none 0 0 true, .b false]) H1 v h' := fun hno H1 hk1 => by
          rw [hno] at hg2; cases hg2
          exact Abs.out rfl rfl hk1
        have xv := gValue_eq f.v
        have xp := gPlain_eq f
        have nbb : ¬ bb = g.nx := by have := hk.1; omega
        cases b1 : valueB f.v
        · simp only [↓STEP, go_sem, ↓reduceIte, Nat.reduceEqDiff, Nat.reduceLeDiff, Nat.reduceLT, Nat.reduceAdd, Nat.reduceSub, Nat.reduceMul, Int.reduceLT, Int.reduceLE, Int.reduceEq, Int.reduceAdd, Int.reduceSub, Int.reduceMul, Int.reduceNeg, Int.reduceToNat, reduceCtorEq, e8, e0, e1, e6, e7, hgb', hrw, hlt', n0, hcv, xv, b1]
          exact none_end (by rw [← hls, lsF, if_pos b1]) _ (by first | exact hk | exact (hk.push).set hk.1)
        · simp only [↓STEP, go_sem, ↓reduceIte, Nat.reduceEqDiff, Nat.reduceLeDiff, Nat.reduceLT, Nat.reduceAdd, Nat.reduceSub, Nat.reduceMul, Int.reduceLT, Int.reduceLE, Int.reduceEq, Int.reduceAdd, Int.reduceSub, Int.reduceMul, Int.reduceNeg, Int.reduceToNat, reduceCtorEq, e8, e0, e1, e6, e7, hgb', hrw, hlt', n0, hcv, xv, b1]
          refine wpA_loop_inv (LsIn t g f.n ps q cap2 ex2) ?_ (m := ps.length) ?_
          · rintro k2 t2 g2 ⟨j, a, rfl, hj, f11, f10, f0, f1, f6, f7, f8, rfl, hid⟩
            rw [e0] at f0
            rw [e1] at f1
            rw [e6] at f6
            rw [e7] at f7
            rw [e8] at f8
            by_cases hlt2 : j < ps.length
            · have hlt2' : (j : Int) < (ps.length : Int) := by omega
              obtain ⟨bb2, r2, all2, ro2, rfl, hbb2, hgb2, hat2⟩ := hrows2.resolve_left (by omega)
              have hgb2' : g.get bb2 = some (.rows 1 all2 ro2) := by rw [hk.2 bb2 hbb2]; exact hgb2
              have hrw2 : all2[r2 + j]? = some [.s ps[j]] := hat2 j _ (by rw [List.getElem?_map, List.getElem?_eq_getElem hlt2]; rfl)
              have hwr2 : Go.IntKind.wrap .i64 ((j : Int) + 1) = (j : Int) + 1 := wrap_i64 (by omega) (by omega)
              have hd2 : ps.drop j = ps[j] :: ps.drop (j + 1) := List.drop_eq_getElem_cons hlt2
              rw [hd2, idxF] at hid
              by_cases c : ps[j] = f.n
              · have c' := eq_true c
                rw [if_pos c] at hid
                simp only [↓STEP, go_sem, ↓reduceIte, Nat.reduceEqDiff, Nat.reduceLeDiff, Nat.reduceLT, Nat.reduceAdd, Nat.reduceSub, Nat.reduceMul, Int.reduceLT, Int.reduceLE, Int.reduceEq, Int.reduceAdd, Int.reduceSub, Int.reduceMul, Int.reduceNeg, Int.reduceToNat, reduceCtorEq, f8, f0, f1, f6, f7, f10, f11, hgb', hrw, hlt', hgb2', hrw2, hlt2', n0, hwr2, c']
                exact ⟨_, by omega, j + 1, _, rfl, by omega, by simp [v_pd, v_pd0], by simp only [v_pd, v_pd0, Nat.reduceEqDiff, if_true, if_false, ↓reduceIte], by simp [v_pd, v_pd0, f0, e0], by simp [v_pd, v_pd0, f1, e1], by simp [v_pd, v_pd0, f6, e6], by simp [v_pd, v_pd0, f7, e7], by simp [v_pd, v_pd0, f8, e8], rfl, hid⟩
              · rw [if_neg c] at hid
                simp only [↓STEP, go_sem, ↓reduceIte, Nat.reduceEqDiff, Nat.reduceLeDiff, Nat.reduceLT, Nat.reduceAdd, Nat.reduceSub, Nat.reduceMul, Int.reduceLT, Int.reduceLE, Int.reduceEq, Int.reduceAdd, Int.reduceSub, Int.reduceMul, Int.reduceNeg, Int.reduceToNat, reduceCtorEq, f8, f0, f1, f6, f7, f10, f11, hgb', hrw, hlt', hgb2', hrw2, hlt2', n0, hwr2, c]
                exact ⟨_, by omega, j + 1, _, rfl, by omega, by simp [v_pd, v_pd0], by simp [v_pd, v_pd0, f10], by simp [v_pd, v_pd0, f0, e0], by simp [v_pd, v_pd0, f1, e1], by simp [v_pd, v_pd0, f6, e6], by simp [v_pd, v_pd0, f7, e7], by simp [v_pd, v_pd0, f8, e8], rfl, hid⟩
            · have hlt2' : ¬ (j : Int) < (ps.length : Int) := by omega
              have : j = ps.length := by omega
              rw [this, List.drop_length, idxF] at hid
              by_cases ha : 0 ≤ a
              · have ha' := eq_true ha
                have har : a < ps.length := by have := (idxF_range f.n ps (-1) 0 (by omega)).2; omega
                obtain ⟨c, hc⟩ : ∃ c, cs[a.toNat]? = some c := ⟨_, List.getElem?_eq_getElem (by omega)⟩
                have hcell : (cs.map cRow)[a.toNat]? = some [.i .i64 (if c = true then 1 else 0)] := by rw [List.getElem?_map, hc]; rfl
                have hcx : lsF ps cs reg (f :: fs.drop (i + 1)) = if reg = true ∨ c = true then none else lsF ps (cs.set a.toNat true) reg (fs.drop (i + 1)) := by
                  rw [lsF, b1, if_neg (by decide), ← hid, if_pos ha, hc]; simp
                rw [hcx] at hls
                have hset : ∀ x : List V, ((cs.map cRow).set a.toNat x)[a.toNat]? = some x := fun x => by rw [List.getElem?_set, if_pos rfl, if_pos (by rw [List.length_map]; omega)]
                cases c
                · have wr1 : Go.IntKind.wrap .i64 (0 + 1) = 1 := by decide
                  simp only [Bool.false_eq_true, if_false, Int.zero_add] at hcell wr1
                  cases reg
                  · simp only [↓STEP, go_sem, ↓reduceIte, Nat.reduceEqDiff, Nat.reduceLeDiff, Nat.reduceLT, Nat.reduceAdd, Nat.reduceSub, Nat.reduceMul, Int.reduceLT, Int.reduceLE, Int.reduceEq, Int.reduceAdd, Int.reduceSub, Int.reduceMul, Int.reduceNeg, Int.reduceToNat, reduceCtorEq, f8, f0, f1, f6, f7, f10, f11, hgb', hrw, hlt', hlt2', n0, ha', hm, har, hcell, wr1, hset, hwr]
                    have hms : (cs.map cRow).set a.toNat [.i .i64 1] = (cs.set a.toNat true).map cRow := by rw [List.map_set]; rfl
                    exact ⟨_, by omega, i + 1, cs.set a.toNat true, false, rfl, by omega, by simp [v_pd, v_pd0], by simp [v_pd, v_pd0, f0], by simp [v_pd, v_pd0, f1], by simp [v_pd, v_pd0, f6], by simp [v_pd, v_pd0, f7], by rw [H.get_set, if_pos rfl, hms], by rw [List.length_set, hcl], (by first | exact hk | exact (hk.push).set hk.1 : Kept h _).set (Nat.le_refl _), by simp only [nx_set]; exact hnx, by rw [← hls]; simp⟩
                  · simp only [↓STEP, go_sem, ↓reduceIte, Nat.reduceEqDiff, Nat.reduceLeDiff, Nat.reduceLT, Nat.reduceAdd, Nat.reduceSub, Nat.reduceMul, Int.reduceLT, Int.reduceLE, Int.reduceEq, Int.reduceAdd, Int.reduceSub, Int.reduceMul, Int.reduceNeg, Int.reduceToNat, reduceCtorEq, f8, f0, f1, f6, f7, f10, f11, hgb', hrw, hlt', hlt2', n0, ha', hm, har, hcell, wr1, hset]
                    exact none_end (by rw [← hls]; simp) _ ((by first | exact hk | exact (hk.push).set hk.1 : Kept h _).set (Nat.le_refl _))
                · have wr1 : Go.IntKind.wrap .i64 (1 + 1) = 2 := by decide
                  simp only [if_true, Int.reduceAdd] at hcell wr1
                  cases reg
                  · simp only [↓STEP, go_sem, ↓reduceIte, Nat.reduceEqDiff, Nat.reduceLeDiff, Nat.reduceLT, Nat.reduceAdd, Nat.reduceSub, Nat.reduceMul, Int.reduceLT, Int.reduceLE, Int.reduceEq, Int.reduceAdd, Int.reduceSub, Int.reduceMul, Int.reduceNeg, Int.reduceToNat, reduceCtorEq, f8, f0, f1, f6, f7, f10, f11, hgb', hrw, hlt', hlt2', n0, ha', hm, har, hcell, wr1, hset]
                    exact none_end (by rw [← hls]; simp) _ ((by first | exact hk | exact (hk.push).set hk.1 : Kept h _).set (Nat.le_refl _))
                  · simp only [↓STEP, go_sem, ↓reduceIte, Nat.reduceEqDiff, Nat.reduceLeDiff, Nat.reduceLT, Nat.reduceAdd, Nat.reduceSub, Nat.reduceMul, Int.reduceLT, Int.reduceLE, Int.reduceEq, Int.reduceAdd, Int.reduceSub, Int.reduceMul, Int.reduceNeg, Int.reduceToNat, reduceCtorEq, f8, f0, f1, f6, f7, f10, f11, hgb', hrw, hlt', hlt2', n0, ha', hm, har, hcell, wr1, hset]
                    exact none_end (by rw [← hls]; simp) _ ((by first | exact hk | exact (hk.push).set hk.1 : Kept h _).set (Nat.le_refl _))
              · cases b2 : plainB f
                · simp only [↓STEP, go_sem, ↓reduceIte, Nat.reduceEqDiff, Nat.reduceLeDiff, Nat.reduceLT, Nat.reduceAdd, Nat.reduceSub, Nat.reduceMul, Int.reduceLT, Int.reduceLE, Int.reduceEq, Int.reduceAdd, Int.reduceSub, Int.reduceMul, Int.reduceNeg, Int.reduceToNat, reduceCtorEq, f8, f0, f1, f6, f7, f10, f11, hgb', hrw, hlt', hlt2', n0, ha, hcp, xp, b2]
                  exact none_end (by rw [← hls, lsF, b1, if_neg (by decide), ← hid, if_neg ha, b2, if_neg (by decide)]) _ (by first | exact hk | exact (hk.push).set hk.1)
                · simp only [↓STEP, go_sem, ↓reduceIte, Nat.reduceEqDiff, Nat.reduceLeDiff, Nat.reduceLT, Nat.reduceAdd, Nat.reduceSub, Nat.reduceMul, Int.reduceLT, Int.reduceLE, Int.reduceEq, Int.reduceAdd, Int.reduceSub, Int.reduceMul, Int.reduceNeg, Int.reduceToNat, reduceCtorEq, f8, f0, f1, f6, f7, f10, f11, hgb', hrw, hlt', hlt2', n0, ha, hcp, xp, b2, hwr]
                  exact ⟨_, by omega, i + 1, cs, true, rfl, by omega, by simp [v_pd, v_pd0], by simp [v_pd, v_pd0, f0], by simp [v_pd, v_pd0, f1], by simp [v_pd, v_pd0, f6], by simp [v_pd, v_pd0], hm, hcl, hk, hnx, by rw [← hls, lsF, b1, if_neg (by decide), ← hid, if_neg ha, if_pos b2]⟩
          · refine ⟨0, -1, rfl, Nat.zero_le _, ?_, ?_, ?_, ?_, ?_, ?_, ?_, rfl, rfl⟩ <;> first | simp only [↓STEP, go_sem, ↓reduceIte, Nat.reduceEqDiff, Nat.reduceLeDiff, Nat.reduceLT, Nat.reduceAdd, Nat.reduceSub, Nat.reduceMul, Int.reduceLT, Int.reduceLE, Int.reduceEq, Int.reduceAdd, Int.reduceSub, Int.reduceMul, Int.reduceNeg, Int.reduceToNat, reduceCtorEq] | simp [v_pd, v_pd0]
      · have hlt' : ¬ (i : Int) < (fs.length : Int) := by omega
        have : i = fs.length := by omega
        rw [this, List.drop_length, lsF] at hls
        rw [← hls] at hg2
        simp only [↓STEP, go_sem, ↓reduceIte, Nat.reduceEqDiff, Nat.reduceLeDiff, Nat.reduceLT, Nat.reduceAdd, Nat.reduceSub, Nat.reduceMul, Int.reduceLT, Int.reduceLE, Int.reduceEq, Int.reduceAdd, Int.reduceSub, Int.reduceMul, Int.reduceNeg, Int.reduceToNat, reduceCtorEq, e8, e0, e1, e6, e7, hlt']
        cases hg2
        exact Abs.slice2 hk hm (Nat.le_refl _) rfl (rows_plain cs) rfl
    · refine ⟨0, ps.map fun _ => false, false, rfl, Nat.zero_le _, ?_, ?_, ?_, ?_, ?_, ?_, ?_, ?_, ?_, rfl⟩
      all_goals (try simp only [↓STEP, go_sem, ↓reduceIte, Nat.reduceEqDiff, Nat.reduceLeDiff, Nat.reduceLT, Nat.reduceAdd, Nat.reduceSub, Nat.reduceMul, Int.reduceLT, Int.reduceLE, Int.reduceEq, Int.reduceAdd, Int.reduceSub, Int.reduceMul, Int.reduceNeg, Int.reduceToNat, reduceCtorEq]; try rfl)
      · simp
      · (repeat (first | exact Kept.refl | apply Kept.push | refine Kept.kill ?_ (by omega) | refine Kept.set ?_ (by omega)))
      · omega
  · cases hg
end Am
