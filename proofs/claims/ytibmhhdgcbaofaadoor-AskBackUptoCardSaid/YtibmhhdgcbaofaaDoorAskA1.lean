/- Asking for an upgrade: what a text may be. -/
import Derived.Test.YtibmhhdgcbaofaaDoorBs
import Derived.Test.YtibmhhdgcbaofaaDoorField7
import Derived.Test.YtibmhhdgcbaofaaDoorCodesAll
namespace Am
set_option linter.unusedVariables false
set_option linter.unusedSimpArgs false
set_option maxRecDepth 20000
set_option maxHeartbeats 4000000
variable {pr : Prog}

def chG (c : Int) : Bool := decide (33 ≤ c) && decide (c ≤ 126)
def chT (c : Int) : Bool := (decide (32 ≤ c) && decide (c ≤ 126)) || decide (c = 9)
def chU (c : Int) : Bool := decide (65 ≤ c) && decide (c ≤ 90)
def gCh (p : Int → Bool) (ys : List V) (h : H) : Option (V × H) :=
  match ys with
  | [.i .u8 c] => some (.b (p c), h)
  | _ => none
theorem gCh_eq (p : Int → Bool) (c : Int) (h : H) : gCh p [.i .u8 c] h = some (.b (p c), h) := rfl
theorem graph_ok : OkF pr c_upgrade_graph (gCh chG) := by
  intro ys h v h' hg
  unfold gCh at hg
  split at hg
  · rename_i c
    cases hg
    unfold wpF c_upgrade_graph
    refine ⟨by simp, ?_⟩
    by_cases h1 : 33 ≤ c
    · by_cases h2 : c ≤ 126
      · simp only [↓STEP, SB, looked, behind, lookOk, AAct.kind, AOp.kind, wpRes, evRes, resV, AOp.ev, bin, binI, binS, shiftI, eqV, un, bound, boundO, fill, fillRows, aggOf, keyEq, findKey, putKey, V.cells, V.flat, byteOf, bytesOf, rdOf, H.wr, H.kOf, splice, isYl, ↓reduceIte, Nat.reduceEqDiff, Nat.reduceLeDiff, Nat.reduceLT, Nat.reduceAdd, Nat.reduceSub, Nat.reduceMul, Int.reduceLT, Int.reduceLE, Int.reduceEq, Int.reduceAdd, Int.reduceSub, Int.reduceMul, Int.reduceNeg, Int.reduceToNat, reduceCtorEq, h1, h2]; exact Abs.eq (by simp [chG, h1, h2]) rfl
      · simp only [↓STEP, SB, looked, behind, lookOk, AAct.kind, AOp.kind, wpRes, evRes, resV, AOp.ev, bin, binI, binS, shiftI, eqV, un, bound, boundO, fill, fillRows, aggOf, keyEq, findKey, putKey, V.cells, V.flat, byteOf, bytesOf, rdOf, H.wr, H.kOf, splice, isYl, ↓reduceIte, Nat.reduceEqDiff, Nat.reduceLeDiff, Nat.reduceLT, Nat.reduceAdd, Nat.reduceSub, Nat.reduceMul, Int.reduceLT, Int.reduceLE, Int.reduceEq, Int.reduceAdd, Int.reduceSub, Int.reduceMul, Int.reduceNeg, Int.reduceToNat, reduceCtorEq, h1, h2]; exact Abs.eq (by simp [chG, h1, h2]) rfl
    · simp only [↓STEP, SB, looked, behind, lookOk, AAct.kind, AOp.kind, wpRes, evRes, resV, AOp.ev, bin, binI, binS, shiftI, eqV, un, bound, boundO, fill, fillRows, aggOf, keyEq, findKey, putKey, V.cells, V.flat, byteOf, bytesOf, rdOf, H.wr, H.kOf, splice, isYl, ↓reduceIte, Nat.reduceEqDiff, Nat.reduceLeDiff, Nat.reduceLT, Nat.reduceAdd, Nat.reduceSub, Nat.reduceMul, Int.reduceLT, Int.reduceLE, Int.reduceEq, Int.reduceAdd, Int.reduceSub, Int.reduceMul, Int.reduceNeg, Int.reduceToNat, reduceCtorEq, h1]; exact Abs.eq (by simp [chG, h1]) rfl
  · cases hg
theorem great_ok : OkF pr c_upgrade_great (gCh chU) := by
  intro ys h v h' hg
  unfold gCh at hg
  split at hg
  · rename_i c
    cases hg
    unfold wpF c_upgrade_great
    refine ⟨by simp, ?_⟩
    by_cases h1 : 65 ≤ c
    · by_cases h2 : c ≤ 90
      · simp only [↓STEP, SB, looked, behind, lookOk, AAct.kind, AOp.kind, wpRes, evRes, resV, AOp.ev, bin, binI, binS, shiftI, eqV, un, bound, boundO, fill, fillRows, aggOf, keyEq, findKey, putKey, V.cells, V.flat, byteOf, bytesOf, rdOf, H.wr, H.kOf, splice, isYl, ↓reduceIte, Nat.reduceEqDiff, Nat.reduceLeDiff, Nat.reduceLT, Nat.reduceAdd, Nat.reduceSub, Nat.reduceMul, Int.reduceLT, Int.reduceLE, Int.reduceEq, Int.reduceAdd, Int.reduceSub, Int.reduceMul, Int.reduceNeg, Int.reduceToNat, reduceCtorEq, h1, h2]; exact Abs.eq (by simp [chU, h1, h2]) rfl
      · simp only [↓STEP, SB, looked, behind, lookOk, AAct.kind, AOp.kind, wpRes, evRes, resV, AOp.ev, bin, binI, binS, shiftI, eqV, un, bound, boundO, fill, fillRows, aggOf, keyEq, findKey, putKey, V.cells, V.flat, byteOf, bytesOf, rdOf, H.wr, H.kOf, splice, isYl, ↓reduceIte, Nat.reduceEqDiff, Nat.reduceLeDiff, Nat.reduceLT, Nat.reduceAdd, Nat.reduceSub, Nat.reduceMul, Int.reduceLT, Int.reduceLE, Int.reduceEq, Int.reduceAdd, Int.reduceSub, Int.reduceMul, Int.reduceNeg, Int.reduceToNat, reduceCtorEq, h1, h2]; exact Abs.eq (by simp [chU, h1, h2]) rfl
    · simp only [↓STEP, SB, looked, behind, lookOk, AAct.kind, AOp.kind, wpRes, evRes, resV, AOp.ev, bin, binI, binS, shiftI, eqV, un, bound, boundO, fill, fillRows, aggOf, keyEq, findKey, putKey, V.cells, V.flat, byteOf, bytesOf, rdOf, H.wr, H.kOf, splice, isYl, ↓reduceIte, Nat.reduceEqDiff, Nat.reduceLeDiff, Nat.reduceLT, Nat.reduceAdd, Nat.reduceSub, Nat.reduceMul, Int.reduceLT, Int.reduceLE, Int.reduceEq, Int.reduceAdd, Int.reduceSub, Int.reduceMul, Int.reduceNeg, Int.reduceToNat, reduceCtorEq, h1]; exact Abs.eq (by simp [chU, h1]) rfl
  · cases hg
theorem text_ok : OkF pr c_upgrade_text (gCh chT) := by
  intro ys h v h' hg
  unfold gCh at hg
  split at hg
  · rename_i c
    cases hg
    unfold wpF c_upgrade_text
    refine ⟨by simp, ?_⟩
    by_cases h1 : 32 ≤ c
    · by_cases h2 : c ≤ 126
      · simp only [↓STEP, SB, looked, behind, lookOk, AAct.kind, AOp.kind, wpRes, evRes, resV, AOp.ev, bin, binI, binS, shiftI, eqV, un, bound, boundO, fill, fillRows, aggOf, keyEq, findKey, putKey, V.cells, V.flat, byteOf, bytesOf, rdOf, H.wr, H.kOf, splice, isYl, ↓reduceIte, Nat.reduceEqDiff, Nat.reduceLeDiff, Nat.reduceLT, Nat.reduceAdd, Nat.reduceSub, Nat.reduceMul, Int.reduceLT, Int.reduceLE, Int.reduceEq, Int.reduceAdd, Int.reduceSub, Int.reduceMul, Int.reduceNeg, Int.reduceToNat, reduceCtorEq, h1, h2]; exact Abs.eq (by simp [chT, h1, h2]) rfl
      · simp only [↓STEP, SB, looked, behind, lookOk, AAct.kind, AOp.kind, wpRes, evRes, resV, AOp.ev, bin, binI, binS, shiftI, eqV, un, bound, boundO, fill, fillRows, aggOf, keyEq, findKey, putKey, V.cells, V.flat, byteOf, bytesOf, rdOf, H.wr, H.kOf, splice, isYl, ↓reduceIte, Nat.reduceEqDiff, Nat.reduceLeDiff, Nat.reduceLT, Nat.reduceAdd, Nat.reduceSub, Nat.reduceMul, Int.reduceLT, Int.reduceLE, Int.reduceEq, Int.reduceAdd, Int.reduceSub, Int.reduceMul, Int.reduceNeg, Int.reduceToNat, reduceCtorEq, h1, h2]; exact Abs.eq (by simp [chT, h1, h2]) rfl
    · by_cases h2 : c = 9
      · simp only [↓STEP, SB, looked, behind, lookOk, AAct.kind, AOp.kind, wpRes, evRes, resV, AOp.ev, bin, binI, binS, shiftI, eqV, un, bound, boundO, fill, fillRows, aggOf, keyEq, findKey, putKey, V.cells, V.flat, byteOf, bytesOf, rdOf, H.wr, H.kOf, splice, isYl, ↓reduceIte, Nat.reduceEqDiff, Nat.reduceLeDiff, Nat.reduceLT, Nat.reduceAdd, Nat.reduceSub, Nat.reduceMul, Int.reduceLT, Int.reduceLE, Int.reduceEq, Int.reduceAdd, Int.reduceSub, Int.reduceMul, Int.reduceNeg, Int.reduceToNat, reduceCtorEq, h1, eq_true h2]; exact Abs.eq (by simp [chT, h2]) rfl
      · simp only [↓STEP, SB, looked, behind, lookOk, AAct.kind, AOp.kind, wpRes, evRes, resV, AOp.ev, bin, binI, binS, shiftI, eqV, un, bound, boundO, fill, fillRows, aggOf, keyEq, findKey, putKey, V.cells, V.flat, byteOf, bytesOf, rdOf, H.wr, H.kOf, splice, isYl, ↓reduceIte, Nat.reduceEqDiff, Nat.reduceLeDiff, Nat.reduceLT, Nat.reduceAdd, Nat.reduceSub, Nat.reduceMul, Int.reduceLT, Int.reduceLE, Int.reduceEq, Int.reduceAdd, Int.reduceSub, Int.reduceMul, Int.reduceNeg, Int.reduceToNat, reduceCtorEq, h1, h2]; exact Abs.eq (by simp [chT, h1, h2]) rfl
  · cases hg

def allP (p : Int → Bool) (l : List UInt8) : Bool := l.all fun c => p c.toNat
theorem allP_false {p : Int → Bool} {l : List UInt8} {i : Nat} (hi : i < l.length) (h : p (l[i].toNat : Int) = false) : allP p l = false := by
  unfold allP
  rw [List.all_eq_false]
  exact ⟨l[i], List.getElem_mem hi, by simpa using h⟩
theorem allP_succ {p : Int → Bool} {l : List UInt8} {i : Nat} (hi : i < l.length) (h0 : allP p (l.take i) = true) (h : p (l[i].toNat : Int) = true) : allP p (l.take (i + 1)) = true := by
  unfold allP at *
  rw [List.take_add_one, List.getElem?_eq_getElem hi, List.all_append, h0]
  simp [h]
/-- Are all bytes some: which ones, the function's number says. -/
def gAllB (kg kt ku : Nat) (ys : List V) (h : H) : Option (V × H) :=
  match ys with
  | [.s l, .f (.fn k) []] => if l.length < 4611686018427387904 then (if k = kg then some (.b (allP chG l), h) else if k = kt then some (.b (allP chT l), h) else if k = ku then some (.b (allP chU l), h) else none) else none
  | _ => none
def AllBLoop (l : List UInt8) (k : Nat) (p : Int → Bool) (h : H) (m : Nat) (t : Tm) (g : H) : Prop :=
  ∃ i : Nat, m = l.length - i ∧ i ≤ l.length ∧ t.v 8 = .i .i64 (i : Nat) ∧ t.v 7 = .i .i64 l.length ∧ t.v 0 = .s l ∧ t.v 1 = .f (.fn k) [] ∧ g = h ∧ allP p (l.take i) = true
theorem all_walk {k : Nat} {p : Int → Bool} (hk : pr.ext k = some (gCh p)) (l : List UInt8) (hl : l.length < 4611686018427387904) (h : H) : wpF pr c_upgrade_all [.s l, .f (.fn k) []] h (fun v g => Abs h v g (.b (allP p l)) h) := by
  have hc := @wpCall_ext pr k _ hk
  unfold wpF c_upgrade_all
  refine ⟨by simp, ?_⟩
  simp only [↓STEP, SB, looked, behind, lookOk, AAct.kind, AOp.kind, wpRes, evRes, resV, AOp.ev, bin, binI, binS, shiftI, eqV, un, bound, boundO, fill, fillRows, aggOf, keyEq, findKey, putKey, V.cells, V.flat, byteOf, bytesOf, rdOf, H.wr, H.kOf, splice, isYl, ↓reduceIte, Nat.reduceEqDiff, Nat.reduceLeDiff, Nat.reduceLT, Nat.reduceAdd, Nat.reduceSub, Nat.reduceMul, Int.reduceLT, Int.reduceLE, Int.reduceEq, Int.reduceAdd, Int.reduceSub, Int.reduceMul, Int.reduceNeg, Int.reduceToNat, reduceCtorEq]
  refine wpA_loop_inv (AllBLoop l k p h) ?_ (m := l.length) ?_
  · rintro m t g ⟨i, rfl, hi, e8, e7, e0, e1, rfl, hall⟩
    by_cases hlt : (i : Int) < l.length
    · have hil : i < l.length := by omega
      have hget : l[i]? = some l[i] := List.getElem?_eq_getElem hil
      have hwr : Go.IntKind.wrap .i64 ((i : Int) + 1) = (i : Int) + 1 := wrap_i64 (by omega) (by omega)
      have hx := gCh_eq p (l[i].toNat : Int) g
      cases hp : p (l[i].toNat : Int) with
      | true =>
        rw [hp] at hx
        simp only [↓STEP, SB, looked, behind, lookOk, AAct.kind, AOp.kind, wpRes, evRes, resV, AOp.ev, bin, binI, binS, shiftI, eqV, un, bound, boundO, fill, fillRows, aggOf, keyEq, findKey, putKey, V.cells, V.flat, byteOf, bytesOf, rdOf, H.wr, H.kOf, splice, isYl, ↓reduceIte, Nat.reduceEqDiff, Nat.reduceLeDiff, Nat.reduceLT, Nat.reduceAdd, Nat.reduceSub, Nat.reduceMul, Int.reduceLT, Int.reduceLE, Int.reduceEq, Int.reduceAdd, Int.reduceSub, Int.reduceMul, Int.reduceNeg, Int.reduceToNat, reduceCtorEq, hc, hx, e8, e7, e0, e1, hlt, hget, hwr]
        exact ⟨_, by omega, i + 1, rfl, by omega, by simp [v_pd], by simp [v_pd, e7], by simp [v_pd, e0], by simp [v_pd, e1], rfl, allP_succ hil hall hp⟩
      | false =>
        rw [hp] at hx
        simp only [↓STEP, SB, looked, behind, lookOk, AAct.kind, AOp.kind, wpRes, evRes, resV, AOp.ev, bin, binI, binS, shiftI, eqV, un, bound, boundO, fill, fillRows, aggOf, keyEq, findKey, putKey, V.cells, V.flat, byteOf, bytesOf, rdOf, H.wr, H.kOf, splice, isYl, ↓reduceIte, Nat.reduceEqDiff, Nat.reduceLeDiff, Nat.reduceLT, Nat.reduceAdd, Nat.reduceSub, Nat.reduceMul, Int.reduceLT, Int.reduceLE, Int.reduceEq, Int.reduceAdd, Int.reduceSub, Int.reduceMul, Int.reduceNeg, Int.reduceToNat, reduceCtorEq, hc, hx, e8, e7, e0, e1, hlt, hget, hwr]
        exact Abs.eq (by rw [allP_false hil hp]) rfl
    · simp only [↓STEP, SB, looked, behind, lookOk, AAct.kind, AOp.kind, wpRes, evRes, resV, AOp.ev, bin, binI, binS, shiftI, eqV, un, bound, boundO, fill, fillRows, aggOf, keyEq, findKey, putKey, V.cells, V.flat, byteOf, bytesOf, rdOf, H.wr, H.kOf, splice, isYl, ↓reduceIte, Nat.reduceEqDiff, Nat.reduceLeDiff, Nat.reduceLT, Nat.reduceAdd, Nat.reduceSub, Nat.reduceMul, Int.reduceLT, Int.reduceLE, Int.reduceEq, Int.reduceAdd, Int.reduceSub, Int.reduceMul, Int.reduceNeg, Int.reduceToNat, reduceCtorEq, e8, e7, e0, e1, hlt]
      have hil : i = l.length := by omega
      rw [hil, List.take_length] at hall
      exact Abs.eq (by rw [hall]) rfl
  · exact ⟨0, rfl, Nat.zero_le _, by simp [v_pd], by simp [v_pd], by simp [v_pd, v_args_cons], by simp [v_pd, v_args_cons], rfl, rfl⟩
theorem allB_ok {kg kt ku : Nat} (h1 : pr.ext kg = some (gCh chG)) (h2 : pr.ext kt = some (gCh chT)) (h3 : pr.ext ku = some (gCh chU)) : OkF pr c_upgrade_all (gAllB kg kt ku) := by
  intro ys h v h' hg
  unfold gAllB at hg
  split at hg
  · rename_i l k
    split at hg
    case isFalse => cases hg
    rename_i hl
    split at hg
    · rename_i hk; subst hk; cases hg
      exact all_walk h1 l hl h
    · split at hg
      · rename_i hk; subst hk; cases hg
        exact all_walk h2 l hl h
      · split at hg
        · rename_i hk; subst hk; cases hg
          exact all_walk h3 l hl h
        · cases hg
  · cases hg

def methodB (l : List UInt8) : Bool := !decide (l = []) && decide (l.length ≤ 16) && allP chU l
def pathB (l : List UInt8) : Bool := (preSl l || decide (l = [42])) && allP chG l
def ownB (l : List UInt8) : Bool := decide (l = [104, 111, 115, 116]) || decide (l = [104, 116, 116, 112, 50, 45, 115, 101, 116, 116, 105, 110, 103, 115]) || decide (l = [99, 111, 110, 116, 101, 110, 116, 45, 108, 101, 110, 103, 116, 104])
/-- What a text answers. -/
def gTx (p : List UInt8 → Bool) (ys : List V) (h : H) : Option (V × H) :=
  match ys with
  | [.s l] => if l.length < 4611686018427387904 then some (.b (p l), h) else none
  | _ => none
theorem gTx_eq {p : List UInt8 → Bool} {l : List UInt8} {h : H} (hl : l.length < 4611686018427387904) : gTx p [.s l] h = some (.b (p l), h) := if_pos hl
theorem own_ok : OkF pr c_upgrade_own (gTx ownB) := by
  intro ys h v h' hg
  unfold gTx at hg
  split at hg
  · rename_i l
    split at hg
    case isFalse => cases hg
    cases hg
    unfold wpF c_upgrade_own
    refine ⟨by simp, ?_⟩
    by_cases a1 : l = [104, 111, 115, 116]
    · simp only [↓STEP, SB, looked, behind, lookOk, AAct.kind, AOp.kind, wpRes, evRes, resV, AOp.ev, bin, binI, binS, shiftI, eqV, un, bound, boundO, fill, fillRows, aggOf, keyEq, findKey, putKey, V.cells, V.flat, byteOf, bytesOf, rdOf, H.wr, H.kOf, splice, isYl, ↓reduceIte, Nat.reduceEqDiff, Nat.reduceLeDiff, Nat.reduceLT, Nat.reduceAdd, Nat.reduceSub, Nat.reduceMul, Int.reduceLT, Int.reduceLE, Int.reduceEq, Int.reduceAdd, Int.reduceSub, Int.reduceMul, Int.reduceNeg, Int.reduceToNat, reduceCtorEq, eq_true a1]; exact Abs.eq (by unfold ownB; rw [decide_eq_true a1]; rfl) rfl
    · by_cases a2 : l = [104, 116, 116, 112, 50, 45, 115, 101, 116, 116, 105, 110, 103, 115]
      · simp only [↓STEP, SB, looked, behind, lookOk, AAct.kind, AOp.kind, wpRes, evRes, resV, AOp.ev, bin, binI, binS, shiftI, eqV, un, bound, boundO, fill, fillRows, aggOf, keyEq, findKey, putKey, V.cells, V.flat, byteOf, bytesOf, rdOf, H.wr, H.kOf, splice, isYl, ↓reduceIte, Nat.reduceEqDiff, Nat.reduceLeDiff, Nat.reduceLT, Nat.reduceAdd, Nat.reduceSub, Nat.reduceMul, Int.reduceLT, Int.reduceLE, Int.reduceEq, Int.reduceAdd, Int.reduceSub, Int.reduceMul, Int.reduceNeg, Int.reduceToNat, reduceCtorEq, a1, eq_true a2]; exact Abs.eq (by unfold ownB; rw [decide_eq_true a2]; simp) rfl
      · by_cases a3 : l = [99, 111, 110, 116, 101, 110, 116, 45, 108, 101, 110, 103, 116, 104]
        · simp only [↓STEP, SB, looked, behind, lookOk, AAct.kind, AOp.kind, wpRes, evRes, resV, AOp.ev, bin, binI, binS, shiftI, eqV, un, bound, boundO, fill, fillRows, aggOf, keyEq, findKey, putKey, V.cells, V.flat, byteOf, bytesOf, rdOf, H.wr, H.kOf, splice, isYl, ↓reduceIte, Nat.reduceEqDiff, Nat.reduceLeDiff, Nat.reduceLT, Nat.reduceAdd, Nat.reduceSub, Nat.reduceMul, Int.reduceLT, Int.reduceLE, Int.reduceEq, Int.reduceAdd, Int.reduceSub, Int.reduceMul, Int.reduceNeg, Int.reduceToNat, reduceCtorEq, a1, a2, eq_true a3]; exact Abs.eq (by unfold ownB; rw [decide_eq_true a3]; simp) rfl
        · simp only [↓STEP, SB, looked, behind, lookOk, AAct.kind, AOp.kind, wpRes, evRes, resV, AOp.ev, bin, binI, binS, shiftI, eqV, un, bound, boundO, fill, fillRows, aggOf, keyEq, findKey, putKey, V.cells, V.flat, byteOf, bytesOf, rdOf, H.wr, H.kOf, splice, isYl, ↓reduceIte, Nat.reduceEqDiff, Nat.reduceLeDiff, Nat.reduceLT, Nat.reduceAdd, Nat.reduceSub, Nat.reduceMul, Int.reduceLT, Int.reduceLE, Int.reduceEq, Int.reduceAdd, Int.reduceSub, Int.reduceMul, Int.reduceNeg, Int.reduceToNat, reduceCtorEq, a1, a2, a3]; exact Abs.eq (by unfold ownB; rw [decide_eq_false a1, decide_eq_false a2, decide_eq_false a3]; rfl) rfl
  · cases hg
theorem method_ok {ka ku kg kt : Nat} (h1 : pr.ext ka = some (gAllB kg kt ku)) (hn : ku ≠ kg ∧ ku ≠ kt) : OkF pr (c_upgrade_method ka ku) (gTx methodB) := by
  intro ys h v h' hg
  unfold gTx at hg
  split at hg
  · rename_i l
    split at hg
    case isFalse => cases hg
    rename_i hl
    cases hg
    have hc := @wpCall_ext pr ka _ h1
    have hx : ∀ g, gAllB kg kt ku [.s l, .f (.fn ku) []] g = some (.b (allP chU l), g) := fun g => by simp only [gAllB, if_pos hl, if_neg hn.1, if_neg hn.2, if_true]
    unfold wpF c_upgrade_method
    refine ⟨by simp, ?_⟩
    by_cases a1 : l = []
    · simp only [↓STEP, SB, looked, behind, lookOk, AAct.kind, AOp.kind, wpRes, evRes, resV, AOp.ev, bin, binI, binS, shiftI, eqV, un, bound, boundO, fill, fillRows, aggOf, keyEq, findKey, putKey, V.cells, V.flat, byteOf, bytesOf, rdOf, H.wr, H.kOf, splice, isYl, ↓reduceIte, Nat.reduceEqDiff, Nat.reduceLeDiff, Nat.reduceLT, Nat.reduceAdd, Nat.reduceSub, Nat.reduceMul, Int.reduceLT, Int.reduceLE, Int.reduceEq, Int.reduceAdd, Int.reduceSub, Int.reduceMul, Int.reduceNeg, Int.reduceToNat, reduceCtorEq, a1]; exact Abs.eq (by unfold methodB; simp) rfl
    · by_cases a2 : (l.length : Int) ≤ 16
      · simp only [↓STEP, SB, looked, behind, lookOk, AAct.kind, AOp.kind, wpRes, evRes, resV, AOp.ev, bin, binI, binS, shiftI, eqV, un, bound, boundO, fill, fillRows, aggOf, keyEq, findKey, putKey, V.cells, V.flat, byteOf, bytesOf, rdOf, H.wr, H.kOf, splice, isYl, ↓reduceIte, Nat.reduceEqDiff, Nat.reduceLeDiff, Nat.reduceLT, Nat.reduceAdd, Nat.reduceSub, Nat.reduceMul, Int.reduceLT, Int.reduceLE, Int.reduceEq, Int.reduceAdd, Int.reduceSub, Int.reduceMul, Int.reduceNeg, Int.reduceToNat, reduceCtorEq, a1, a2, hc, hx]; exact Abs.eq (by unfold methodB; rw [decide_eq_false a1, decide_eq_true (by omega : l.length ≤ 16)]; rfl) rfl
      · simp only [↓STEP, SB, looked, behind, lookOk, AAct.kind, AOp.kind, wpRes, evRes, resV, AOp.ev, bin, binI, binS, shiftI, eqV, un, bound, boundO, fill, fillRows, aggOf, keyEq, findKey, putKey, V.cells, V.flat, byteOf, bytesOf, rdOf, H.wr, H.kOf, splice, isYl, ↓reduceIte, Nat.reduceEqDiff, Nat.reduceLeDiff, Nat.reduceLT, Nat.reduceAdd, Nat.reduceSub, Nat.reduceMul, Int.reduceLT, Int.reduceLE, Int.reduceEq, Int.reduceAdd, Int.reduceSub, Int.reduceMul, Int.reduceNeg, Int.reduceToNat, reduceCtorEq, a1, a2]; exact Abs.eq (by unfold methodB; rw [decide_eq_false (by omega : ¬ l.length ≤ 16)]; simp) rfl
  · cases hg
theorem path_ok {kp ka ku kg kt : Nat} (h0 : pr.ext kp = some gPre) (h1 : pr.ext ka = some (gAllB kg kt ku)) : OkF pr (c_upgrade_path kp ka kg) (gTx pathB) := by
  intro ys h v h' hg
  unfold gTx at hg
  split at hg
  · rename_i l
    split at hg
    case isFalse => cases hg
    rename_i hl
    cases hg
    have hp := @wpCall_ext pr kp _ h0
    have hc := @wpCall_ext pr ka _ h1
    have hx : ∀ g, gAllB kg kt ku [.s l, .f (.fn kg) []] g = some (.b (allP chG l), g) := fun g => by simp only [gAllB, if_pos hl, if_true]
    have hpx := gPre_eq l [47]
    unfold wpF c_upgrade_path
    refine ⟨by simp, ?_⟩
    have hps : preSl l = decide (([47] : List UInt8).length ≤ l.length ∧ l.take ([47] : List UInt8).length = [47]) := rfl
    rw [← hps] at hpx
    cases hv : preSl l with
    | true => rw [hv] at hpx; simp only [↓STEP, SB, looked, behind, lookOk, AAct.kind, AOp.kind, wpRes, evRes, resV, AOp.ev, bin, binI, binS, shiftI, eqV, un, bound, boundO, fill, fillRows, aggOf, keyEq, findKey, putKey, V.cells, V.flat, byteOf, bytesOf, rdOf, H.wr, H.kOf, splice, isYl, ↓reduceIte, Nat.reduceEqDiff, Nat.reduceLeDiff, Nat.reduceLT, Nat.reduceAdd, Nat.reduceSub, Nat.reduceMul, Int.reduceLT, Int.reduceLE, Int.reduceEq, Int.reduceAdd, Int.reduceSub, Int.reduceMul, Int.reduceNeg, Int.reduceToNat, reduceCtorEq, hp, hpx, hc, hx]; exact Abs.eq (by unfold pathB; rw [hv]; rfl) rfl
    | false =>
      rw [hv] at hpx
      by_cases a1 : l = [42]
      · simp only [↓STEP, SB, looked, behind, lookOk, AAct.kind, AOp.kind, wpRes, evRes, resV, AOp.ev, bin, binI, binS, shiftI, eqV, un, bound, boundO, fill, fillRows, aggOf, keyEq, findKey, putKey, V.cells, V.flat, byteOf, bytesOf, rdOf, H.wr, H.kOf, splice, isYl, ↓reduceIte, Nat.reduceEqDiff, Nat.reduceLeDiff, Nat.reduceLT, Nat.reduceAdd, Nat.reduceSub, Nat.reduceMul, Int.reduceLT, Int.reduceLE, Int.reduceEq, Int.reduceAdd, Int.reduceSub, Int.reduceMul, Int.reduceNeg, Int.reduceToNat, reduceCtorEq, hp, hpx, eq_true a1, hc, hx]; exact Abs.eq (by unfold pathB; rw [hv, decide_eq_true a1]; rfl) rfl
      · simp only [↓STEP, SB, looked, behind, lookOk, AAct.kind, AOp.kind, wpRes, evRes, resV, AOp.ev, bin, binI, binS, shiftI, eqV, un, bound, boundO, fill, fillRows, aggOf, keyEq, findKey, putKey, V.cells, V.flat, byteOf, bytesOf, rdOf, H.wr, H.kOf, splice, isYl, ↓reduceIte, Nat.reduceEqDiff, Nat.reduceLeDiff, Nat.reduceLT, Nat.reduceAdd, Nat.reduceSub, Nat.reduceMul, Int.reduceLT, Int.reduceLE, Int.reduceEq, Int.reduceAdd, Int.reduceSub, Int.reduceMul, Int.reduceNeg, Int.reduceToNat, reduceCtorEq, hp, hpx, a1, hc, hx]; exact Abs.eq (by unfold pathB; rw [hv, decide_eq_false a1]; rfl) rfl
  · cases hg
end Am
