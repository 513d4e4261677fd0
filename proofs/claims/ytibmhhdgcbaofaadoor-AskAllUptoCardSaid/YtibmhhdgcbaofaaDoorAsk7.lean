/- The law AskBase, over what writing and reading base64 give. -/
import Derived.Test.YtibmhhdgcbaofaaDoorAsk6
namespace Am
set_option linter.unusedVariables false
set_option linter.unusedSimpArgs false
set_option maxRecDepth 20000
set_option maxHeartbeats 4000000
variable {pr : Prog}

theorem gCode_eq {a : Option (Nat × Nat)} {n c : Nat} {ex : Bool} {l : List UInt8} {h : H} (hn : n ≤ 20000000) (hl : rdB h a n = some l) : gCode [.sl a n c ex] h = some (.s (codeP l), h) := by
  unfold gCode; simp only [if_pos hn, hl, Option.bind_some]

/-- What the calls of the law give. -/
theorem base_facts {h : H} {a : Option (Nat × Nat)} {n c : Nat} {ex : Bool} {bs l : List UInt8} (hr : rdB h a n = some bs) (hn : n ≤ 3000) (hl : l.length ≤ 3000) :
    gCode [.sl a n c ex] h = some (.s (codeP bs), h) ∧ ∃ a1 n1 ex1 g1, gDec [.s (codeP bs)] h = some (.tup [.sl a1 n1 n1 ex1, .i .i64 0], g1) ∧ Nat.ble h.nx g1.nx = true ∧
      ∃ a2 n2 ex2 g2 a3 n3 ex3 g3 e d, gDec [.s l] g1 = some (.tup [.sl a2 n2 n2 ex2, .i .i64 e], g2) ∧ gDec [.s l] g2 = some (.tup [.sl a3 n3 n3 ex3, .i .i64 e], g3) ∧ (e = 0 ∨ e = 4) ∧
        (e = 0 → gCode [.sl a2 n2 n2 ex2] g3 = some (.s l, g3)) ∧ gCode [.sl a n c ex] g3 = some (.s (codeP bs), g3) ∧ g3.bseg a1 n1 = some bs ∧ g3.bseg a n = some bs ∧ g3.bseg a2 n2 = some d ∧ g3.bseg a3 n3 = some d := by
  have hbl := rdB_len hr
  have hcl := codeP_len bs
  refine ⟨gCode_eq (by omega) hr, ?_⟩
  have hd := gDec_some (h := h) (l := codeP bs) (by omega) (dec_code bs)
  obtain ⟨a1, n1, ex1, g1, q1, q2, q3, q4⟩ := outV_rd h bs [.i .i64 0]
  rw [q1] at hd
  refine ⟨a1, n1, ex1, g1, hd, by simpa using q4.1, ?_⟩
  cases hdl : decP l with
  | none =>
    have hx := gDec_none (h := g1) (by omega) hdl
    refine ⟨none, 0, true, g1, none, 0, true, g1, 4, [], hx, hx, .inr rfl, fun h => by omega, gCode_eq (by omega) (rdB_kept hr q4), rdB_bseg q3, rdB_bseg (rdB_kept hr q4), bseg_zero, bseg_zero⟩
  | some d =>
    have hx := gDec_some (h := g1) (by omega) hdl
    obtain ⟨a2, n2, ex2, g2, r1, r2, r3, r4⟩ := outV_rd g1 d [.i .i64 0]
    rw [r1] at hx
    have hy := gDec_some (h := g2) (by omega) hdl
    obtain ⟨a3, n3, ex3, g3, s1, s2, s3, s4⟩ := outV_rd g2 d [.i .i64 0]
    rw [s1] at hy
    have hdle := decP_len hdl
    refine ⟨a2, n2, ex2, g2, a3, n3, ex3, g3, 0, d, hx, hy, .inl rfl, fun _ => ?_, gCode_eq (by omega) (rdB_kept (rdB_kept (rdB_kept hr q4) r4) s4), rdB_bseg (rdB_kept (rdB_kept q3 r4) s4), rdB_bseg (rdB_kept (rdB_kept (rdB_kept hr q4) r4) s4), rdB_bseg (rdB_kept r3 s4), rdB_bseg s3⟩
    rw [gCode_eq (by omega) (rdB_kept r3 s4), code_dec l d hdl]

theorem askBase_law {G kb k1 k2 k3 k4 : Nat} (hb : pr.ext kb = some (xConstG G (.b true))) (h1 : pr.ext k1 = some gCode) (h2 : pr.ext k2 = some gDec) (h3 : pr.ext k3 = some gDec) (h4 : pr.ext k4 = some gCode)
    {a : Option (Nat × Nat)} {n c : Nat} {ex : Bool} {bs l : List UInt8} {h : H} (hc : n ≤ c) (hr : rdB h a n = some bs) (hG : hasG G h = true) :
    wpF pr (c_isthmuslaw18_AskBase kb k1 k2 k3 k4) [.sl a n c ex, .s l] h (fun v _ => v = .b true) := by
  have xb := @wpCall_ext pr kb _ hb
  have x1 := @wpCall_ext pr k1 _ h1
  have x2 := @wpCall_ext pr k2 _ h2
  have x3 := @wpCall_ext pr k3 _ h3
  have x4 := @wpCall_ext pr k4 _ h4
  have y0 : xConstG G (.b true) [] h = some (.b true, h) := xConstG_eq hG
  unfold wpF c_isthmuslaw18_AskBase
  refine ⟨by simp, ?_⟩
  by_cases hn : (3000 : Int) < n
  · have hc3 : (3000 : Int) ≤ c := by omega
    by_cases hl : (3000 : Int) < l.length
    · have hl3 : (3000 : Int) ≤ l.length := by omega
      obtain ⟨y1, a1, n1, ex1, g1, y2, ble, a2, n2, ex2, g2, a3, n3, ex3, g3, e, d, y3, y4, he, y5, y6, z1, z2, z3, z4⟩ := base_facts (c := c) (ex := ex) (l := l.take 3000) (rdB_take hr (k := 3000) (by omega)) (by omega) (by rw [List.length_take]; omega)
      rcases a with _ | ⟨b, r⟩ <;> rcases he with rfl | rfl
      all_goals simp only [↓STEP, SB, looked, behind, lookOk, AAct.kind, AOp.kind, wpRes, evRes, resV, AOp.ev, bin, binI, binS, shiftI, eqV, un, bound, boundO, fill, fillRows, aggOf, keyEq, findKey, putKey, V.cells, V.flat, byteOf, bytesOf, rdOf, H.wr, H.kOf, splice, isYl, ↓reduceIte, Nat.reduceEqDiff, Nat.reduceLeDiff, Nat.reduceLT, Nat.reduceAdd, Nat.reduceSub, Nat.reduceMul, Int.reduceLT, Int.reduceLE, Int.reduceEq, Int.reduceAdd, Int.reduceSub, Int.reduceMul, Int.reduceNeg, Int.reduceToNat, reduceCtorEq, xb, x1, x2, x3, x4, y0, y1, y2, y3, y4, y5, y6, z1, z2, z3, z4, hn, hc3, hl, hl3, Nat.sub_zero, Option.isSome_none]
    · obtain ⟨y1, a1, n1, ex1, g1, y2, ble, a2, n2, ex2, g2, a3, n3, ex3, g3, e, d, y3, y4, he, y5, y6, z1, z2, z3, z4⟩ := base_facts (c := c) (ex := ex) (l := l) (rdB_take hr (k := 3000) (by omega)) (by omega) (by omega)
      rcases a with _ | ⟨b, r⟩ <;> rcases he with rfl | rfl
      all_goals simp only [↓STEP, SB, looked, behind, lookOk, AAct.kind, AOp.kind, wpRes, evRes, resV, AOp.ev, bin, binI, binS, shiftI, eqV, un, bound, boundO, fill, fillRows, aggOf, keyEq, findKey, putKey, V.cells, V.flat, byteOf, bytesOf, rdOf, H.wr, H.kOf, splice, isYl, ↓reduceIte, Nat.reduceEqDiff, Nat.reduceLeDiff, Nat.reduceLT, Nat.reduceAdd, Nat.reduceSub, Nat.reduceMul, Int.reduceLT, Int.reduceLE, Int.reduceEq, Int.reduceAdd, Int.reduceSub, Int.reduceMul, Int.reduceNeg, Int.reduceToNat, reduceCtorEq, xb, x1, x2, x3, x4, y0, y1, y2, y3, y4, y5, y6, z1, z2, z3, z4, hn, hc3, hl, Nat.sub_zero, Option.isSome_none]
  · by_cases hl : (3000 : Int) < l.length
    · have hl3 : (3000 : Int) ≤ l.length := by omega
      obtain ⟨y1, a1, n1, ex1, g1, y2, ble, a2, n2, ex2, g2, a3, n3, ex3, g3, e, d, y3, y4, he, y5, y6, z1, z2, z3, z4⟩ := base_facts (c := c) (ex := ex) (l := l.take 3000) hr (by omega) (by rw [List.length_take]; omega)
      rcases he with rfl | rfl
      all_goals simp only [↓STEP, SB, looked, behind, lookOk, AAct.kind, AOp.kind, wpRes, evRes, resV, AOp.ev, bin, binI, binS, shiftI, eqV, un, bound, boundO, fill, fillRows, aggOf, keyEq, findKey, putKey, V.cells, V.flat, byteOf, bytesOf, rdOf, H.wr, H.kOf, splice, isYl, ↓reduceIte, Nat.reduceEqDiff, Nat.reduceLeDiff, Nat.reduceLT, Nat.reduceAdd, Nat.reduceSub, Nat.reduceMul, Int.reduceLT, Int.reduceLE, Int.reduceEq, Int.reduceAdd, Int.reduceSub, Int.reduceMul, Int.reduceNeg, Int.reduceToNat, reduceCtorEq, xb, x1, x2, x3, x4, y0, y1, y2, y3, y4, y5, y6, z1, z2, z3, z4, hn, hl, hl3]
    · obtain ⟨y1, a1, n1, ex1, g1, y2, ble, a2, n2, ex2, g2, a3, n3, ex3, g3, e, d, y3, y4, he, y5, y6, z1, z2, z3, z4⟩ := base_facts (c := c) (ex := ex) (l := l) hr (by omega) (by omega)
      rcases he with rfl | rfl
      all_goals simp only [↓STEP, SB, looked, behind, lookOk, AAct.kind, AOp.kind, wpRes, evRes, resV, AOp.ev, bin, binI, binS, shiftI, eqV, un, bound, boundO, fill, fillRows, aggOf, keyEq, findKey, putKey, V.cells, V.flat, byteOf, bytesOf, rdOf, H.wr, H.kOf, splice, isYl, ↓reduceIte, Nat.reduceEqDiff, Nat.reduceLeDiff, Nat.reduceLT, Nat.reduceAdd, Nat.reduceSub, Nat.reduceMul, Int.reduceLT, Int.reduceLE, Int.reduceEq, Int.reduceAdd, Int.reduceSub, Int.reduceMul, Int.reduceNeg, Int.reduceToNat, reduceCtorEq, xb, x1, x2, x3, x4, y0, y1, y2, y3, y4, y5, y6, z1, z2, z3, z4, hn, hl]

end Am
