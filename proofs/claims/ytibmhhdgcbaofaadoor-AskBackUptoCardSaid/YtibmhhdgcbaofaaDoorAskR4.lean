/- What a line's field does to a request that is being read. -/
import Derived.Test.YtibmhhdgcbaofaaDoorAskR3
namespace Am
set_option linter.unusedVariables false
set_option linter.unusedSimpArgs false
set_option maxRecDepth 20000
set_option maxHeartbeats 8000000
variable {pr : Prog}

def kHost : List UInt8 := [104, 111, 115, 116]
def kConn : List UInt8 := [99, 111, 110, 110, 101, 99, 116, 105, 111, 110]
def kUpg : List UInt8 := [117, 112, 103, 114, 97, 100, 101]
def kSet : List UInt8 := [104, 116, 116, 112, 50, 45, 115, 101, 116, 116, 105, 110, 103, 115]
def plainN (n : List UInt8) : Bool := !decide (n = kHost) && !decide (n = kConn) && !decide (n = kUpg) && !decide (n = kSet) && !decide (n = [99, 111, 110, 116, 101, 110, 116, 45, 108, 101, 110, 103, 116, 104]) &&
  !decide (n = [116, 114, 97, 110, 115, 102, 101, 114, 45, 101, 110, 99, 111, 100, 105, 110, 103]) && !decide (n = [107, 101, 101, 112, 45, 97, 108, 105, 118, 101]) && !decide (n = [112, 114, 111, 120, 121, 45, 99, 111, 110, 110, 101, 99, 116, 105, 111, 110])
def reqRow (m p : List UInt8) (a : Option (Nat × Nat)) (k : Nat) (ex : Bool) (bm : Nat) : Blk := .rows 5 [[.s m, .s p, .sl a k k ex, .m (some bm), .b false]] false

theorem takes_key {kt : Nat} (hA : pr.ext kt = none) (hfn : pr.fn kt = some c_upgrade_request_takes) {g : H} {b bm k : Nat} {m p n v : List UInt8} {a : Option (Nat × Nat)} {ex : Bool} {M : PM} (hn : n = kHost ∨ n = kConn ∨ n = kUpg ∨ n = kSet)
    (hb : g.get b = some (reqRow m p a k ex bm)) (hbm : g.get bm = some (.map (ents M))) (hl : look M n = none) (h1 : b < g.nx) (h2 : bm < g.nx) (hne : b ≠ bm) :
    Runs pr (.fn kt) [.p (some (b, 0, 0)), .agg [.s n, .s v, .b false]] g (fun _ g' => KeptBut bm g g' ∧ g'.get bm = some (.map (ents (M ++ [(n, v)])))) := by
  have f1 : findKey .str (.s n) (ents M) = some none := by rw [findKey_ents, hl]; rfl
  have f2 := putKey_new n v M hl
  have n1 : b ≠ g.nx := by omega
  have n2 : bm ≠ g.nx := by omega
  unfold reqRow at hb
  refine runs_of_wpF hA hfn ?_
  unfold wpF c_upgrade_request_takes
  refine ⟨by simp, ?_⟩
  rcases hn with hn | hn | hn | hn
  · have c0 : (n = [104, 111, 115, 116]) = True := eq_true hn
    simp only [↓STEP, SB, looked, behind, lookOk, AAct.kind, AOp.kind, wpRes, evRes, resV, AOp.ev, bin, binI, binS, shiftI, eqV, un, bound, boundO, fill, fillRows, aggOf, keyEq, findKey, putKey, V.cells, V.flat, byteOf, bytesOf, rdOf, H.wr, H.kOf, splice, isYl, ↓reduceIte, Nat.reduceEqDiff, Nat.reduceLeDiff, Nat.reduceLT, Nat.reduceAdd, Nat.reduceSub, Nat.reduceMul, Int.reduceLT, Int.reduceLE, Int.reduceEq, Int.reduceAdd, Int.reduceSub, Int.reduceMul, Int.reduceNeg, Int.reduceToNat, reduceCtorEq, hb, hbm, n1, n2, f1, f2, c0]
    exact ⟨by show g.nx ≤ g.nx + 1; omega, fun i hi hib => by simp only [↓STEP, SB, looked, behind, lookOk, AAct.kind, AOp.kind, wpRes, evRes, resV, AOp.ev, bin, binI, binS, shiftI, eqV, un, bound, boundO, fill, fillRows, aggOf, keyEq, findKey, putKey, V.cells, V.flat, byteOf, bytesOf, rdOf, H.wr, H.kOf, splice, isYl, ↓reduceIte, Nat.reduceEqDiff, Nat.reduceLeDiff, Nat.reduceLT, Nat.reduceAdd, Nat.reduceSub, Nat.reduceMul, Int.reduceLT, Int.reduceLE, Int.reduceEq, Int.reduceAdd, Int.reduceSub, Int.reduceMul, Int.reduceNeg, Int.reduceToNat, reduceCtorEq, hib, show i ≠ g.nx by omega]⟩
  · have c0 : (n = [99, 111, 110, 110, 101, 99, 116, 105, 111, 110]) = True := eq_true hn
    have c1 : ¬ n = [104, 111, 115, 116] := by rw [hn]; decide
    simp only [↓STEP, SB, looked, behind, lookOk, AAct.kind, AOp.kind, wpRes, evRes, resV, AOp.ev, bin, binI, binS, shiftI, eqV, un, bound, boundO, fill, fillRows, aggOf, keyEq, findKey, putKey, V.cells, V.flat, byteOf, bytesOf, rdOf, H.wr, H.kOf, splice, isYl, ↓reduceIte, Nat.reduceEqDiff, Nat.reduceLeDiff, Nat.reduceLT, Nat.reduceAdd, Nat.reduceSub, Nat.reduceMul, Int.reduceLT, Int.reduceLE, Int.reduceEq, Int.reduceAdd, Int.reduceSub, Int.reduceMul, Int.reduceNeg, Int.reduceToNat, reduceCtorEq, hb, hbm, n1, n2, f1, f2, c0, c1]
    exact ⟨by show g.nx ≤ g.nx + 1; omega, fun i hi hib => by simp only [↓STEP, SB, looked, behind, lookOk, AAct.kind, AOp.kind, wpRes, evRes, resV, AOp.ev, bin, binI, binS, shiftI, eqV, un, bound, boundO, fill, fillRows, aggOf, keyEq, findKey, putKey, V.cells, V.flat, byteOf, bytesOf, rdOf, H.wr, H.kOf, splice, isYl, ↓reduceIte, Nat.reduceEqDiff, Nat.reduceLeDiff, Nat.reduceLT, Nat.reduceAdd, Nat.reduceSub, Nat.reduceMul, Int.reduceLT, Int.reduceLE, Int.reduceEq, Int.reduceAdd, Int.reduceSub, Int.reduceMul, Int.reduceNeg, Int.reduceToNat, reduceCtorEq, hib, show i ≠ g.nx by omega]⟩
  · have c0 : (n = [117, 112, 103, 114, 97, 100, 101]) = True := eq_true hn
    have c1 : ¬ n = [104, 111, 115, 116] := by rw [hn]; decide
    have c2 : ¬ n = [99, 111, 110, 110, 101, 99, 116, 105, 111, 110] := by rw [hn]; decide
    simp only [↓STEP, SB, looked, behind, lookOk, AAct.kind, AOp.kind, wpRes, evRes, resV, AOp.ev, bin, binI, binS, shiftI, eqV, un, bound, boundO, fill, fillRows, aggOf, keyEq, findKey, putKey, V.cells, V.flat, byteOf, bytesOf, rdOf, H.wr, H.kOf, splice, isYl, ↓reduceIte, Nat.reduceEqDiff, Nat.reduceLeDiff, Nat.reduceLT, Nat.reduceAdd, Nat.reduceSub, Nat.reduceMul, Int.reduceLT, Int.reduceLE, Int.reduceEq, Int.reduceAdd, Int.reduceSub, Int.reduceMul, Int.reduceNeg, Int.reduceToNat, reduceCtorEq, hb, hbm, n1, n2, f1, f2, c0, c1, c2]
    exact ⟨by show g.nx ≤ g.nx + 1; omega, fun i hi hib => by simp only [↓STEP, SB, looked, behind, lookOk, AAct.kind, AOp.kind, wpRes, evRes, resV, AOp.ev, bin, binI, binS, shiftI, eqV, un, bound, boundO, fill, fillRows, aggOf, keyEq, findKey, putKey, V.cells, V.flat, byteOf, bytesOf, rdOf, H.wr, H.kOf, splice, isYl, ↓reduceIte, Nat.reduceEqDiff, Nat.reduceLeDiff, Nat.reduceLT, Nat.reduceAdd, Nat.reduceSub, Nat.reduceMul, Int.reduceLT, Int.reduceLE, Int.reduceEq, Int.reduceAdd, Int.reduceSub, Int.reduceMul, Int.reduceNeg, Int.reduceToNat, reduceCtorEq, hib, show i ≠ g.nx by omega]⟩
  · have c0 : (n = [104, 116, 116, 112, 50, 45, 115, 101, 116, 116, 105, 110, 103, 115]) = True := eq_true hn
    have c1 : ¬ n = [104, 111, 115, 116] := by rw [hn]; decide
    have c2 : ¬ n = [99, 111, 110, 110, 101, 99, 116, 105, 111, 110] := by rw [hn]; decide
    have c3 : ¬ n = [117, 112, 103, 114, 97, 100, 101] := by rw [hn]; decide
    simp only [↓STEP, SB, looked, behind, lookOk, AAct.kind, AOp.kind, wpRes, evRes, resV, AOp.ev, bin, binI, binS, shiftI, eqV, un, bound, boundO, fill, fillRows, aggOf, keyEq, findKey, putKey, V.cells, V.flat, byteOf, bytesOf, rdOf, H.wr, H.kOf, splice, isYl, ↓reduceIte, Nat.reduceEqDiff, Nat.reduceLeDiff, Nat.reduceLT, Nat.reduceAdd, Nat.reduceSub, Nat.reduceMul, Int.reduceLT, Int.reduceLE, Int.reduceEq, Int.reduceAdd, Int.reduceSub, Int.reduceMul, Int.reduceNeg, Int.reduceToNat, reduceCtorEq, hb, hbm, n1, n2, f1, f2, c0, c1, c2, c3]
    exact ⟨by show g.nx ≤ g.nx + 1; omega, fun i hi hib => by simp only [↓STEP, SB, looked, behind, lookOk, AAct.kind, AOp.kind, wpRes, evRes, resV, AOp.ev, bin, binI, binS, shiftI, eqV, un, bound, boundO, fill, fillRows, aggOf, keyEq, findKey, putKey, V.cells, V.flat, byteOf, bytesOf, rdOf, H.wr, H.kOf, splice, isYl, ↓reduceIte, Nat.reduceEqDiff, Nat.reduceLeDiff, Nat.reduceLT, Nat.reduceAdd, Nat.reduceSub, Nat.reduceMul, Int.reduceLT, Int.reduceLE, Int.reduceEq, Int.reduceAdd, Int.reduceSub, Int.reduceMul, Int.reduceNeg, Int.reduceToNat, reduceCtorEq, hib, show i ≠ g.nx by omega]⟩

theorem takes_more {kt : Nat} (hA : pr.ext kt = none) (hfn : pr.fn kt = some c_upgrade_request_takes) {h g : H} {b bm k : Nat} {m p n v : List UInt8} {a : Option (Nat × Nat)} {ex : Bool} {rows : List (List V)} (hn : plainN n = true)
    (o : OutR h g 3 a k ex rows) (hk : k ≤ 100000) (hb : g.get b = some (reqRow m p a k ex bm)) (h1 : b < g.nx) (h0 : h.nx ≤ b) (hne : blkOf a ≠ some b) :
    Runs pr (.fn kt) [.p (some (b, 0, 0)), .agg [.s n, .s v, .b false]] g (fun _ g' => ∃ b', OutR h g' 3 (some (b', 0)) (k + 1) false (rows ++ [[.s n, .s v, .b false]]) ∧ g'.get b = some (reqRow m p (some (b', 0)) (k + 1) false bm) ∧
      (∀ i, i < g.nx → i ≠ b → blkOf a ≠ some i → g'.get i = g.get i) ∧ g.nx ≤ g'.nx ∧ g.nx < b') := by
  have n1 : b ≠ g.nx := by omega
  have n3 : b ≠ g.nx + 1 := by omega
  unfold reqRow at hb
  unfold plainN at hn
  simp only [Bool.and_eq_true, Bool.not_eq_true'] at hn
  obtain ⟨⟨⟨⟨⟨⟨⟨m1, m2⟩, m3⟩, m4⟩, m5⟩, m6⟩, m7⟩, m8⟩ := hn
  have m1 := of_decide_eq_false m1
  have m2 := of_decide_eq_false m2
  have m3 := of_decide_eq_false m3
  have m4 := of_decide_eq_false m4
  have m5 := of_decide_eq_false m5
  have m6 := of_decide_eq_false m6
  have m7 := of_decide_eq_false m7
  have m8 := of_decide_eq_false m8
  simp only [kHost, kConn, kUpg, kSet] at m1 m2 m3 m4
  have o1 := o.push (.rows 3 [[.s n, .s v, .b false]] false)
  have hx : (g.push (.rows 3 [[.s n, .s v, .b false]] false)).nx = g.nx + 1 := rfl
  have ha : blkOf a ≠ some g.nx := by
    intro hb
    rcases o.is with ⟨rfl, _⟩ | ⟨b, rfl, _, _, h4, _⟩
    · cases hb
    · cases hb; exact absurd h4 (Nat.lt_irrefl _)
  obtain ⟨b', g', e1, o', ka, hb', hx'⟩ := o1.app1K (.rows 3 [[.s n, .s v, .b false]] false) 40 [.s n, .s v, .b false] (by decide) (by decide) (by omega)
  have s1 := rseg_tmp1 (g.push (.rows 3 [[.s n, .s v, .b false]] false)) 3 [.s n, .s v, .b false]
  have z : g'.get b = some (.rows 5 [[.s m, .s p, .sl a k k ex, .m (some bm), .b false]] false) := by
    rw [ka.2 b (by omega) hne, H.get_push, if_neg n1]; exact hb
  rw [hx] at s1 hb' hx'
  have ble1 : Nat.ble (g.nx + 2) g'.nx = true := by simp; omega
  refine runs_of_wpF hA hfn ?_
  unfold wpF c_upgrade_request_takes
  refine ⟨by simp, ?_⟩
  simp only [↓STEP, SB, looked, behind, lookOk, AAct.kind, AOp.kind, wpRes, evRes, resV, AOp.ev, bin, binI, binS, shiftI, eqV, un, bound, boundO, fill, fillRows, aggOf, keyEq, findKey, putKey, V.cells, V.flat, byteOf, bytesOf, rdOf, H.wr, H.kOf, splice, isYl, ↓reduceIte, Nat.reduceEqDiff, Nat.reduceLeDiff, Nat.reduceLT, Nat.reduceAdd, Nat.reduceSub, Nat.reduceMul, Int.reduceLT, Int.reduceLE, Int.reduceEq, Int.reduceAdd, Int.reduceSub, Int.reduceMul, Int.reduceNeg, Int.reduceToNat, reduceCtorEq, hb, n1, n3, m1, m2, m3, m4, m5, m6, m7, m8, s1, e1, List.flatten_cons, List.flatten_nil, z, ble1]
  refine ⟨by simp, b', o'.setO h0 (fun hq => ?_), rfl, fun i hi hib hia => ?_, ?_, by omega⟩
  · have := Option.some.inj hq; simp at this; omega
  · rw [if_neg hib, ka.2 i (by omega) hia, H.get_push, if_neg (by omega)]
  · show g.nx ≤ g'.nx; omega

end Am
