/- The law AskAll. -/
import Derived.Test.YtibmhhdgcbaofaaDoorAskA9
import Derived.Test.YtibmhhdgcbaofaaDoorAsk1
namespace Am
set_option linter.unusedVariables false
set_option linter.unusedSimpArgs false
set_option maxRecDepth 20000
set_option maxHeartbeats 4000000
variable {pr : Prog}

theorem askAll_law {G kb kA kR : Nat} (hb : pr.ext kb = some (xConstG G (.b true))) {p q : Option (Nat × Nat)} {n c m c2 : Nat} {ex ex2 : Bool} {h : H} {e : Int} {s : List UInt8} (hG : hasG G h = true)
    (h1 : Runs pr (.fn kA) [.sl p n c ex, .sl q m c2 ex2] h (AskPost h e s)) (h2 : ∀ g, Kept h g → Runs pr (.fn kR) [.sl p n c ex, .sl q m c2 ex2] g (AskPost g e s)) :
    wpF pr (c_isthmuslaw18_AskAll kb kA kR) [.sl p n c ex, .sl q m c2 ex2] h (fun v _ => v = .b true) := by
  have xb := @wpCall_ext pr kb _ hb
  have y0 : xConstG G (.b true) [] h = some (.b true, h) := xConstG_eq hG
  unfold wpF c_isthmuslaw18_AskAll
  refine ⟨by simp, ?_⟩
  simp only [↓STEP, SB, looked, behind, lookOk, AAct.kind, AOp.kind, wpRes, evRes, resV, AOp.ev, bin, binI, binS, shiftI, eqV, un, bound, boundO, fill, fillRows, aggOf, keyEq, findKey, putKey, V.cells, V.flat, byteOf, bytesOf, rdOf, H.wr, H.kOf, splice, isYl, ↓reduceIte, Nat.reduceEqDiff, Nat.reduceLeDiff, Nat.reduceLT, Nat.reduceAdd, Nat.reduceSub, Nat.reduceMul, Int.reduceLT, Int.reduceLE, Int.reduceEq, Int.reduceAdd, Int.reduceSub, Int.reduceMul, Int.reduceNeg, Int.reduceToNat, reduceCtorEq, xb, y0]
  refine Runs.mono (c := .fn kA) («as» := [.sl p n c ex, .sl q m c2 ex2] ++ []) h1 ?_
  rintro v g ⟨hk, a1, n1, c1, ex1, rfl, hc1, hr1⟩
  simp only [↓STEP, SB, looked, behind, lookOk, AAct.kind, AOp.kind, wpRes, evRes, resV, AOp.ev, bin, binI, binS, shiftI, eqV, un, bound, boundO, fill, fillRows, aggOf, keyEq, findKey, putKey, V.cells, V.flat, byteOf, bytesOf, rdOf, H.wr, H.kOf, splice, isYl, ↓reduceIte, Nat.reduceEqDiff, Nat.reduceLeDiff, Nat.reduceLT, Nat.reduceAdd, Nat.reduceSub, Nat.reduceMul, Int.reduceLT, Int.reduceLE, Int.reduceEq, Int.reduceAdd, Int.reduceSub, Int.reduceMul, Int.reduceNeg, Int.reduceToNat, reduceCtorEq]
  refine Runs.mono (c := .fn kR) («as» := [.sl p n c ex, .sl q m c2 ex2] ++ []) (h2 g hk) ?_
  rintro v g2 ⟨hk2, a3, n3, c3, ex3, rfl, hc3, hr3⟩
  have b1 := rdB_bseg (rdB_kept hr1 hk2)
  have b3 := rdB_bseg hr3
  simp only [↓STEP, SB, looked, behind, lookOk, AAct.kind, AOp.kind, wpRes, evRes, resV, AOp.ev, bin, binI, binS, shiftI, eqV, un, bound, boundO, fill, fillRows, aggOf, keyEq, findKey, putKey, V.cells, V.flat, byteOf, bytesOf, rdOf, H.wr, H.kOf, splice, isYl, ↓reduceIte, Nat.reduceEqDiff, Nat.reduceLeDiff, Nat.reduceLT, Nat.reduceAdd, Nat.reduceSub, Nat.reduceMul, Int.reduceLT, Int.reduceLE, Int.reduceEq, Int.reduceAdd, Int.reduceSub, Int.reduceMul, Int.reduceNeg, Int.reduceToNat, reduceCtorEq, b1, b3]

end Am
