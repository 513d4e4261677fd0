/- Script texts: lines in the document; the law ScriptWrite. -/
import Derived.Test.YtjcchmmmbegamaaDoorScrG
import Derived.Test.YtjcchmmmbegamaaDoorScrX
namespace Am
set_option linter.unusedVariables false
set_option linter.unusedSimpArgs false
set_option maxRecDepth 20000
set_option maxHeartbeats 8000000
variable {pr : Prog}

theorem lineE_snd (s : Sp) : (lineE s).2 = 0 ∨ (lineE s).2 = 1 := by
  unfold lineE
  split
  · exact .inl rfl
  · exact .inr rfl
def WrLoop (h : H) (ss : List Sp) (x : V) (m : Nat) (t : Tm) (g : H) : Prop :=
  ∃ (i n c : Nat) (a : Option (Nat × Nat)) (ex : Bool) (acc : List UInt8) (er : Int) (lg : Bool), m = ss.length - i ∧ i ≤ ss.length ∧ t.v 7 = .i .i64 (i : Nat) ∧ t.v 0 = x ∧ t.v 4 = .sl a n c ex ∧ t.v 5 = .i .i64 er ∧ t.v 6 = .b lg ∧ OutB h g a n c acc ∧ n = acc.length ∧ n ≤ 1048576 ∧
    (lg = false → wrF ss [] 0 = wrF (ss.drop i) acc er) ∧ (lg = true → wrF ss [] 0 = none)
theorem writeR_wp {Z : H → Int → Bool} (hZ : Zok Z) {kl : Nat} (hl : pr.ext kl = some (gLineS Z))
    {h : H} {p : Option (Nat × Nat)} {n c : Nat} {ex : Bool} {ss : List Sp} (hst : stepsIn h p n ss) (ok : ∀ s ∈ ss, SpOk Z h s) (hn : n ≤ 4096) :
    wpF pr (c_isthmusref23_Write kl) [.sl p n c ex] h (fun v g => v = writeV ss ∧ Kept h g) := by
  obtain ⟨hlen, hrow⟩ := hst
  subst hlen
  have hw : writeV ss = match wrF ss [] 0 with
      | none => .tup [.s [], .i .i64 2]
      | some (acc, er) => if er = 0 then .tup [.s acc, .i .i64 0] else .tup [.s [], .i .i64 er] := by
    unfold writeV; rw [if_neg (by omega)]
    cases wrF ss [] 0 with
    | none => rfl
    | some x => rfl
  have hc0 := @wpCall_ext pr kl (gLineS Z) hl
  have hbig : ¬ (4096 : Int) < (ss.length : Int) := by omega
  unfold wpF c_isthmusref23_Write
  refine ⟨by simp, ?_⟩
  simp only [↓STEP, SB, looked, behind, lookOk, AAct.kind, AOp.kind, wpRes, evRes, resV, AOp.ev, bin, binI, binS, shiftI, eqV, un, bound, boundO, fill, fillRows, aggOf, keyEq, findKey, putKey, V.cells, V.flat, byteOf, bytesOf, rdOf, H.wr, H.kOf, splice, isYl, ↓reduceIte, Nat.reduceEqDiff, Nat.reduceLeDiff, Nat.reduceLT, Nat.reduceAdd, Nat.reduceSub, Nat.reduceMul, Int.reduceLT, Int.reduceLE, Int.reduceEq, Int.reduceAdd, Int.reduceSub, Int.reduceMul, Int.reduceNeg, Int.reduceToNat, reduceCtorEq, hbig]
  refine wpA_loop_inv (WrLoop h ss (.sl p ss.length c ex)) ?_ (m := ss.length) ?_
  · rintro m t g ⟨i, n, c', a, ex', acc, er, lg, rfl, hi, e7, e0, e4, e5, e6, o, hna, hn1, hF, hT⟩
    have hbs : g.bseg a n = some acc := o.sl.bseg
    by_cases hlt : (i : Int) < ss.length
    · cases lg with
      | true =>
        have hT := hT rfl
        rw [hT] at hw
        rw [hw]
        simp only [↓STEP, SB, looked, behind, lookOk, AAct.kind, AOp.kind, wpRes, evRes, resV, AOp.ev, bin, binI, binS, shiftI, eqV, un, bound, boundO, fill, fillRows, aggOf, keyEq, findKey, putKey, V.cells, V.flat, byteOf, bytesOf, rdOf, H.wr, H.kOf, splice, isYl, ↓reduceIte, Nat.reduceEqDiff, Nat.reduceLeDiff, Nat.reduceLT, Nat.reduceAdd, Nat.reduceSub, Nat.reduceMul, Int.reduceLT, Int.reduceLE, Int.reduceEq, Int.reduceAdd, Int.reduceSub, Int.reduceMul, Int.reduceNeg, Int.reduceToNat, reduceCtorEq, e7, e0, e4, e5, e6, hlt]
        exact o.kept
      | false =>
        have hF := hF rfl
        have hil : i < ss.length := by omega
        obtain ⟨b, r, all, ro, rfl, hbn, hg, hat⟩ := hrow.resolve_left (by omega)
        obtain ⟨row, h1, hsp⟩ := hat i ss[i] (List.getElem?_eq_getElem hil)
        have hok := ok ss[i] (List.getElem_mem hil)
        have hrl : row.length = 12 := by obtain ⟨_, _, _, _, _, _, _, _, h, _⟩ := hsp; rw [h]; rfl
        have hr12 : List.take 12 row = row := List.take_of_length_le (by omega)
        have hgb : g.get b = some (.rows 12 all ro) := by rw [o.kept.2 b hbn]; exact hg
        have x0 : gLineS Z [.agg row] g = some (lineV ss[i], g) := gLineS_eq (spRow_kept hsp o.kept) (hok.keep hZ o.kept)
        rw [lineV_E] at x0
        rw [List.drop_eq_getElem_cons hil, wrF] at hF
        have hle := lineE_len hok
        have hsn := lineE_snd ss[i]
        generalize lineE ss[i] = le at *
        obtain ⟨lt, l2⟩ := le
        simp only at hF x0 hle hsn
        have w1 : Go.IntKind.wrap .i64 (1048576 - (n : Int)) = 1048576 - (n : Int) := wrap_i64 (by omega) (by omega)
        have wi : Go.IntKind.wrap .i64 ((i : Int) + 1) = ((i + 1 : Nat) : Int) := wrap_i64 (by omega) (by omega)
        have her : errF er l2 = if er = 0 then l2 else er := by
          unfold errF
          rcases hsn with rfl | rfl <;> by_cases h0 : er = 0 <;> simp [h0]
        rw [her] at hF
        by_cases hlong : (1048576 - (n : Int)) < (lt.length : Int)
        · rw [if_pos (by omega)] at hF
          by_cases he0 : er = 0
          · simp only [↓STEP, SB, looked, behind, lookOk, AAct.kind, AOp.kind, wpRes, evRes, resV, AOp.ev, bin, binI, binS, shiftI, eqV, un, bound, boundO, fill, fillRows, aggOf, keyEq, findKey, putKey, V.cells, V.flat, byteOf, bytesOf, rdOf, H.wr, H.kOf, splice, isYl, ↓reduceIte, Nat.reduceEqDiff, Nat.reduceLeDiff, Nat.reduceLT, Nat.reduceAdd, Nat.reduceSub, Nat.reduceMul, Int.reduceLT, Int.reduceLE, Int.reduceEq, Int.reduceAdd, Int.reduceSub, Int.reduceMul, Int.reduceNeg, Int.reduceToNat, reduceCtorEq, e7, e0, e4, e5, e6, hlt, hgb, h1, hrl, hr12, hc0, x0, w1, wi, hlong, he0]
            exact ⟨_, by omega, i + 1, n, c', a, ex', acc, _, true, rfl, by omega, by simp [v_pd, v_pd0], by simp [v_pd, v_pd0, e0], by simp [v_pd, v_pd0, e4], by simp [v_pd, v_pd0]; rfl, by simp [v_pd, v_pd0], o, hna, hn1, (fun h => by cases h), fun _ => hF⟩
          · simp only [↓STEP, SB, looked, behind, lookOk, AAct.kind, AOp.kind, wpRes, evRes, resV, AOp.ev, bin, binI, binS, shiftI, eqV, un, bound, boundO, fill, fillRows, aggOf, keyEq, findKey, putKey, V.cells, V.flat, byteOf, bytesOf, rdOf, H.wr, H.kOf, splice, isYl, ↓reduceIte, Nat.reduceEqDiff, Nat.reduceLeDiff, Nat.reduceLT, Nat.reduceAdd, Nat.reduceSub, Nat.reduceMul, Int.reduceLT, Int.reduceLE, Int.reduceEq, Int.reduceAdd, Int.reduceSub, Int.reduceMul, Int.reduceNeg, Int.reduceToNat, reduceCtorEq, e7, e0, e4, e5, e6, hlt, hgb, h1, hrl, hr12, hc0, x0, w1, wi, hlong, he0]
            exact ⟨_, by omega, i + 1, n, c', a, ex', acc, _, true, rfl, by omega, by simp [v_pd, v_pd0], by simp [v_pd, v_pd0, e0], by simp [v_pd, v_pd0, e4], by simp [v_pd, v_pd0, e5]; rfl, by simp [v_pd, v_pd0], o, hna, hn1, (fun h => by cases h), fun _ => hF⟩
        · rw [if_neg (by omega)] at hF
          obtain ⟨a2, c2, ex2, g2, q1, o2⟩ := o.app ex' lt (by omega)
          have hroom : n + lt.length ≤ 1048576 := by omega
          by_cases he0 : er = 0
          · rw [if_pos he0] at hF
            simp only [↓STEP, SB, looked, behind, lookOk, AAct.kind, AOp.kind, wpRes, evRes, resV, AOp.ev, bin, binI, binS, shiftI, eqV, un, bound, boundO, fill, fillRows, aggOf, keyEq, findKey, putKey, V.cells, V.flat, byteOf, bytesOf, rdOf, H.wr, H.kOf, splice, isYl, ↓reduceIte, Nat.reduceEqDiff, Nat.reduceLeDiff, Nat.reduceLT, Nat.reduceAdd, Nat.reduceSub, Nat.reduceMul, Int.reduceLT, Int.reduceLE, Int.reduceEq, Int.reduceAdd, Int.reduceSub, Int.reduceMul, Int.reduceNeg, Int.reduceToNat, reduceCtorEq, e7, e0, e4, e5, e6, hlt, hgb, h1, hrl, hr12, hc0, x0, w1, wi, hlong, he0, q1]
            exact ⟨_, by omega, i + 1, n + lt.length, c2, a2, ex2, acc ++ lt, l2, false, rfl, by omega, by simp [v_pd, v_pd0], by simp [v_pd, v_pd0, e0], by simp [v_pd, v_pd0], by simp [v_pd, v_pd0], by simp [v_pd, v_pd0], o2, by rw [List.length_append, hna], hroom, (fun _ => hF), fun h => by cases h⟩
          · rw [if_neg he0] at hF
            simp only [↓STEP, SB, looked, behind, lookOk, AAct.kind, AOp.kind, wpRes, evRes, resV, AOp.ev, bin, binI, binS, shiftI, eqV, un, bound, boundO, fill, fillRows, aggOf, keyEq, findKey, putKey, V.cells, V.flat, byteOf, bytesOf, rdOf, H.wr, H.kOf, splice, isYl, ↓reduceIte, Nat.reduceEqDiff, Nat.reduceLeDiff, Nat.reduceLT, Nat.reduceAdd, Nat.reduceSub, Nat.reduceMul, Int.reduceLT, Int.reduceLE, Int.reduceEq, Int.reduceAdd, Int.reduceSub, Int.reduceMul, Int.reduceNeg, Int.reduceToNat, reduceCtorEq, e7, e0, e4, e5, e6, hlt, hgb, h1, hrl, hr12, hc0, x0, w1, wi, hlong, he0, q1]
            exact ⟨_, by omega, i + 1, n + lt.length, c2, a2, ex2, acc ++ lt, er, false, rfl, by omega, by simp [v_pd, v_pd0], by simp [v_pd, v_pd0, e0], by simp [v_pd, v_pd0], by simp [v_pd, v_pd0, e5], by simp [v_pd, v_pd0], o2, by rw [List.length_append, hna], hroom, (fun _ => hF), fun h => by cases h⟩
    · have hil : i = ss.length := by omega
      subst hil
      cases lg with
      | true =>
        have hT := hT rfl
        rw [hT] at hw
        rw [hw]
        simp only [↓STEP, SB, looked, behind, lookOk, AAct.kind, AOp.kind, wpRes, evRes, resV, AOp.ev, bin, binI, binS, shiftI, eqV, un, bound, boundO, fill, fillRows, aggOf, keyEq, findKey, putKey, V.cells, V.flat, byteOf, bytesOf, rdOf, H.wr, H.kOf, splice, isYl, ↓reduceIte, Nat.reduceEqDiff, Nat.reduceLeDiff, Nat.reduceLT, Nat.reduceAdd, Nat.reduceSub, Nat.reduceMul, Int.reduceLT, Int.reduceLE, Int.reduceEq, Int.reduceAdd, Int.reduceSub, Int.reduceMul, Int.reduceNeg, Int.reduceToNat, reduceCtorEq, e7, e0, e4, e5, e6, hlt]
        exact o.kept
      | false =>
        have hF := hF rfl
        rw [List.drop_length, wrF] at hF
        rw [hF] at hw
        rw [hw]
        by_cases he0 : er = 0
        · subst he0
          simp only [↓STEP, SB, looked, behind, lookOk, AAct.kind, AOp.kind, wpRes, evRes, resV, AOp.ev, bin, binI, binS, shiftI, eqV, un, bound, boundO, fill, fillRows, aggOf, keyEq, findKey, putKey, V.cells, V.flat, byteOf, bytesOf, rdOf, H.wr, H.kOf, splice, isYl, ↓reduceIte, Nat.reduceEqDiff, Nat.reduceLeDiff, Nat.reduceLT, Nat.reduceAdd, Nat.reduceSub, Nat.reduceMul, Int.reduceLT, Int.reduceLE, Int.reduceEq, Int.reduceAdd, Int.reduceSub, Int.reduceMul, Int.reduceNeg, Int.reduceToNat, reduceCtorEq, e7, e0, e4, e5, e6, hlt, hbs]
          exact o.kept
        · simp only [↓STEP, SB, looked, behind, lookOk, AAct.kind, AOp.kind, wpRes, evRes, resV, AOp.ev, bin, binI, binS, shiftI, eqV, un, bound, boundO, fill, fillRows, aggOf, keyEq, findKey, putKey, V.cells, V.flat, byteOf, bytesOf, rdOf, H.wr, H.kOf, splice, isYl, ↓reduceIte, Nat.reduceEqDiff, Nat.reduceLeDiff, Nat.reduceLT, Nat.reduceAdd, Nat.reduceSub, Nat.reduceMul, Int.reduceLT, Int.reduceLE, Int.reduceEq, Int.reduceAdd, Int.reduceSub, Int.reduceMul, Int.reduceNeg, Int.reduceToNat, reduceCtorEq, e7, e0, e4, e5, e6, hlt, he0]
          exact o.kept
  · exact ⟨0, 0, 0, none, true, [], 0, false, rfl, Nat.zero_le _, by simp [v_pd, v_pd0], by simp [v_pd, v_pd0, v_args_cons], by simp [v_pd, v_pd0], by simp [v_pd, v_pd0], by simp [v_pd, v_pd0], OutB.nil h, rfl, by omega, (fun _ => rfl), fun h => by cases h⟩
end Am
