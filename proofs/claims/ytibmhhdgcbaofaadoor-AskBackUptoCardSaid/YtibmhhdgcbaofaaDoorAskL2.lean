/- The whole lines of bytes, as the program goes over them. -/
import Derived.Test.YtibmhhdgcbaofaaDoorAskL1
import Derived.Test.YtibmhhdgcbaofaaDoorAmRfn
import Derived.Test.YtibmhhdgcbaofaaDoorCodesAll
namespace Am
set_option linter.unusedVariables false
set_option linter.unusedSimpArgs false
set_option maxRecDepth 20000
set_option maxHeartbeats 4000000
variable {pr : Prog}

def idxA (l sub : List UInt8) : Int :=
  match sub with
  | [c] => fIdx l c
  | _ => fIdxS l sub
def cutA (l sub : List UInt8) : List UInt8 × List UInt8 × Bool :=
  if 0 ≤ idxA l sub then (l.take (idxA l sub).toNat, l.drop ((idxA l sub).toNat + sub.length), true) else (l, [], false)
theorem xIndexS_eq {G : Nat} {l sub : List UInt8} {h : H} (hl : l.length < 1000000) (hh : hasG G h = true) : xIndexS G [.s l, .s sub] h = some (.i .i64 (idxA l sub), h) := by
  unfold xIndexS idxA
  match sub with
  | [] => simp only; rw [if_pos ⟨by omega, hh⟩]
  | [c] => rfl
  | a :: b :: r => simp only; rw [if_pos ⟨by omega, hh⟩]
theorem idxA_room (l sub : List UInt8) (h : 0 ≤ idxA l sub) : idxA l sub + sub.length ≤ l.length := by
  unfold idxA at h ⊢
  match sub with
  | [] => exact fIdxS_room l [] h
  | [c] => have := fIdx_lt l c h; simp; omega
  | a :: b :: r => exact fIdxS_room l _ h
def gCutA (G : Nat) (ys : List V) (h : H) : Option (V × H) :=
  match ys with
  | [.s l, .s sub] => if l.length < 1000000 ∧ hasG G h = true then some (.tup [.s (cutA l sub).1, .s (cutA l sub).2.1, .b (cutA l sub).2.2], h) else none
  | _ => none
theorem gCutA_eq {G : Nat} {l sub : List UInt8} {h : H} (hl : l.length < 1000000) (hh : hasG G h = true) : gCutA G [.s l, .s sub] h = some (.tup [.s (cutA l sub).1, .s (cutA l sub).2.1, .b (cutA l sub).2.2], h) := if_pos ⟨hl, hh⟩
theorem cutAS_ok {G k : Nat} (hw : pr.ext k = some (xIndexS G)) : OkF pr (c_stringslite_Cut k) (gCutA G) := by
  intro ys h v h' hg
  unfold gCutA at hg
  split at hg
  · rename_i l sub
    split at hg
    case isFalse => cases hg
    rename_i hlen
    cases hg
    have hc := @wpCall_ext pr k _ hw
    have hx := xIndexS_eq (sub := sub) hlen.1 hlen.2
    have hroom := idxA_room l sub
    unfold wpF c_stringslite_Cut
    refine ⟨by simp, ?_⟩
    unfold cutA
    generalize idxA l sub = i at hx hroom
    by_cases a : 0 ≤ i
    · have a' := eq_true a
      have hlt := hroom a
      have hlt' : i ≤ (l.length : Int) := by omega
      have hw1 : Go.IntKind.wrap .i64 (i + sub.length) = i + sub.length := wrap_i64 (by omega) (by omega)
      have hlt2 : i + sub.length ≤ (l.length : Int) := by omega
      have h0 : 0 ≤ i + (sub.length : Int) := by omega
      simp only [↓STEP, go_sem, ↓reduceIte, Nat.reduceEqDiff, Nat.reduceLeDiff, Nat.reduceLT, Nat.reduceAdd, Nat.reduceSub, Nat.reduceMul, Int.reduceLT, Int.reduceLE, Int.reduceEq, Int.reduceAdd, Int.reduceSub, Int.reduceMul, Int.reduceNeg, Int.reduceToNat, reduceCtorEq, hc, hx, a', hw1, hlt', hlt2, h0]
      exact Abs.eq (by rw [List.take_length, show (i + (sub.length : Int)).toNat = i.toNat + sub.length by omega]) rfl
    · simp only [↓STEP, go_sem, ↓reduceIte, Nat.reduceEqDiff, Nat.reduceLeDiff, Nat.reduceLT, Nat.reduceAdd, Nat.reduceSub, Nat.reduceMul, Int.reduceLT, Int.reduceLE, Int.reduceEq, Int.reduceAdd, Int.reduceSub, Int.reduceMul, Int.reduceNeg, Int.reduceToNat, reduceCtorEq, hc, hx, a]
      exact Abs.refl
  · cases hg
theorem cutA_ok {G k : Nat} (hw : pr.ext k = some (gCutA G)) : OkF pr (c_strings_Cut k) (gCutA G) := by
  intro ys h v h' hg
  have hg0 := hg
  unfold gCutA at hg
  split at hg
  · rename_i l b
    split at hg
    case isFalse => cases hg
    cases hg
    have hc := @wpCall_ext pr k _ hw
    unfold wpF c_strings_Cut
    refine ⟨by simp, ?_⟩
    simp only [↓STEP, go_sem, ↓reduceIte, Nat.reduceEqDiff, Nat.reduceLeDiff, Nat.reduceLT, Nat.reduceAdd, Nat.reduceSub, Nat.reduceMul, Int.reduceLT, Int.reduceLE, Int.reduceEq, Int.reduceAdd, Int.reduceSub, Int.reduceMul, Int.reduceNeg, Int.reduceToNat, reduceCtorEq, hc, hg0]
    exact Abs.refl
  · cases hg
theorem cutA_crlf (l : List UInt8) : cutA l [13, 10] = if 0 ≤ fIdxS l crlf then (l.take (fIdxS l crlf).toNat, l.drop ((fIdxS l crlf).toNat + 2), true) else (l, [], false) := rfl

def gLines (k1 : Nat) (ys : List V) (h : H) : Option (V × H) :=
  match ys with
  | [.sl a n c ex] => some (.f (.fn k1) [.p (some (h.nx, 0, 0))], h.push (.rows 1 [[.sl a n c ex]] false))
  | _ => none
theorem linesP_ok {k1 : Nat} : OkF pr (c_upgrade_Lines k1) (gLines k1) := by
  intro ys h v h' hg
  unfold gLines at hg
  split at hg
  · rename_i a n c ex
    cases hg
    unfold wpF c_upgrade_Lines
    refine ⟨by simp, ?_⟩
    simp only [↓STEP, go_sem, ↓reduceIte, Nat.reduceEqDiff, Nat.reduceLeDiff, Nat.reduceLT, Nat.reduceAdd, Nat.reduceSub, Nat.reduceMul, Int.reduceLT, Int.reduceLE, Int.reduceEq, Int.reduceAdd, Int.reduceSub, Int.reduceMul, Int.reduceNeg, Int.reduceToNat, reduceCtorEq]
    exact Abs.refl
  · cases hg

def LinLoop (L : Nat) (Inv : Nat → H → Prop) (s : List UInt8) (m : Nat) (t : Tm) (g : H) : Prop :=
  ∃ (j : Nat) (rest : List UInt8), m = rest.length ∧ t.v 3 = .s rest ∧ t.v 4 = .i .i64 (j : Nat) ∧ t.v 0 = .f (.yl L) [] ∧ rest.length ≤ s.length ∧ j ≤ s.length ∧ j + (linesR rest).1.length = (linesR s).1.length ∧ (linesR s).1.drop j = (linesR rest).1 ∧ Inv j g

/-- Going over whole lines, whatever is done at each. -/
theorem lines1_runs {G kc k1 L : Nat} (hc : pr.ext kc = some (gCutA G)) (hA : pr.ext k1 = none) (hfn : pr.fn k1 = some (c_upgrade_Lines_1 kc))
    {Inv : Nat → H → Prop} {Done : H → Prop} {g0 : H} {bx : Nat} {a : Option (Nat × Nat)} {n c : Nat} {ex ro : Bool} {s : List UInt8} (hbx : g0.get bx = some (.rows 1 [[.sl a n c ex]] ro)) (hs : rdB g0 a n = some s) (hlen : s.length < 1000000)
    (hG : ∀ j g, Inv j g → hasG G g = true) (hi : Inv 0 g0)
    (hy : ∀ (j : Nat) (l : List UInt8) (g : H), (linesR s).1[j]? = some l → Inv j g → Runs pr (.yl L) [.i .i64 (j : Int), .s l] g (fun v g' => (v = .b true ∧ Inv (j + 1) g') ∨ (v = .b false ∧ Done g'))) :
    Runs pr (.fn k1) [.f (.yl L) [], .p (some (bx, 0, 0))] g0 (fun _ g' => Inv (linesR s).1.length g' ∨ Done g') := by
  have xc := @wpCall_ext pr kc _ hc
  refine runs_of_wpF hA hfn ?_
  unfold wpF c_upgrade_Lines_1
  refine ⟨by simp, ?_⟩
  have hsl := linesR_len s.length s (Nat.le_refl _)
  simp only [↓STEP, SB, looked, behind, lookOk, AAct.kind, AOp.kind, wpRes, evRes, resV, AOp.ev, bin, binI, binS, shiftI, eqV, un, bound, boundO, fill, fillRows, aggOf, keyEq, findKey, putKey, V.cells, V.flat, byteOf, bytesOf, rdOf, H.wr, H.kOf, splice, isYl, ↓reduceIte, Nat.reduceEqDiff, Nat.reduceLeDiff, Nat.reduceLT, Nat.reduceAdd, Nat.reduceSub, Nat.reduceMul, Int.reduceLT, Int.reduceLE, Int.reduceEq, Int.reduceAdd, Int.reduceSub, Int.reduceMul, Int.reduceNeg, Int.reduceToNat, reduceCtorEq, hbx, rdB_bseg hs]
  refine wpA_loop_inv (LinLoop L Inv s) ?_ (m := s.length) ?_
  · rintro m t g ⟨j, rest, rfl, e3, e4, e0, hrl, hjl, hcount, hdrop, hinv⟩
    have hcut := gCutA_eq (G := G) (l := rest) (sub := [13, 10]) (h := g) (by omega) (hG j g hinv)
    rw [cutA_crlf] at hcut
    have hw1 : Go.IntKind.wrap .i64 ((j : Int) + 1) = (j : Int) + 1 := wrap_i64 (by omega) (by omega)
    by_cases h0 : 0 ≤ fIdxS rest crlf
    · rw [if_pos h0] at hcut
      have hroom := fIdxS_room rest crlf h0
      have hcl : crlf.length = 2 := rfl
      obtain ⟨i, hie⟩ : ∃ i : Nat, fIdxS rest crlf = i := ⟨(fIdxS rest crlf).toNat, by omega⟩
      rw [hie, Int.toNat_natCast] at hcut
      have hat : (linesR s).1[j]? = some (rest.take i) := by
        have h1 : (linesR rest).1[0]? = some (rest.take i) := by
          by_cases hz : i = 0
          · rw [linesR_zero (by omega), hz]; rfl
          · rw [linesR_cons hie hz]; rfl
        rw [← hdrop, List.getElem?_drop, Nat.add_zero] at h1
        exact h1
      have hyj := hy j _ g hat hinv
      simp only [↓STEP, SB, looked, behind, lookOk, AAct.kind, AOp.kind, wpRes, evRes, resV, AOp.ev, bin, binI, binS, shiftI, eqV, un, bound, boundO, fill, fillRows, aggOf, keyEq, findKey, putKey, V.cells, V.flat, byteOf, bytesOf, rdOf, H.wr, H.kOf, splice, isYl, ↓reduceIte, Nat.reduceEqDiff, Nat.reduceLeDiff, Nat.reduceLT, Nat.reduceAdd, Nat.reduceSub, Nat.reduceMul, Int.reduceLT, Int.reduceLE, Int.reduceEq, Int.reduceAdd, Int.reduceSub, Int.reduceMul, Int.reduceNeg, Int.reduceToNat, reduceCtorEq, xc, e3, e4, e0, hcut, hw1]
      refine Runs.mono (c := .yl L) («as» := [.i .i64 (j : Int), .s (rest.take i)] ++ []) hyj ?_
      rintro v g' (⟨rfl, hi'⟩ | ⟨rfl, hd⟩)
      · by_cases hz : i = 0
        · have hne : rest.take i = [] := by rw [hz]; rfl
          have hne' := eq_true hne
          simp only [↓STEP, SB, looked, behind, lookOk, AAct.kind, AOp.kind, wpRes, evRes, resV, AOp.ev, bin, binI, binS, shiftI, eqV, un, bound, boundO, fill, fillRows, aggOf, keyEq, findKey, putKey, V.cells, V.flat, byteOf, bytesOf, rdOf, H.wr, H.kOf, splice, isYl, ↓reduceIte, Nat.reduceEqDiff, Nat.reduceLeDiff, Nat.reduceLT, Nat.reduceAdd, Nat.reduceSub, Nat.reduceMul, Int.reduceLT, Int.reduceLE, Int.reduceEq, Int.reduceAdd, Int.reduceSub, Int.reduceMul, Int.reduceNeg, Int.reduceToNat, reduceCtorEq, hne', e3, e4, e0, hw1]
          rw [linesR_zero (by omega)] at hcount
          exact .inl (by have : j + 1 = (linesR s).1.length := hcount; rw [← this]; exact hi')
        · have hne : ¬ rest.take i = [] := fun h => by
            have := congrArg List.length h
            rw [List.length_take, List.length_nil] at this
            omega
          simp only [↓STEP, SB, looked, behind, lookOk, AAct.kind, AOp.kind, wpRes, evRes, resV, AOp.ev, bin, binI, binS, shiftI, eqV, un, bound, boundO, fill, fillRows, aggOf, keyEq, findKey, putKey, V.cells, V.flat, byteOf, bytesOf, rdOf, H.wr, H.kOf, splice, isYl, ↓reduceIte, Nat.reduceEqDiff, Nat.reduceLeDiff, Nat.reduceLT, Nat.reduceAdd, Nat.reduceSub, Nat.reduceMul, Int.reduceLT, Int.reduceLE, Int.reduceEq, Int.reduceAdd, Int.reduceSub, Int.reduceMul, Int.reduceNeg, Int.reduceToNat, reduceCtorEq, hne, e3, e4, e0, hw1]
          have hdl : (rest.drop (i + 2)).length = rest.length - (i + 2) := List.length_drop
          rw [linesR_cons hie hz] at hcount hdrop
          have hsr := linesR_len _ (rest.drop (i + 2)) (Nat.le_refl _)
          refine ⟨_, by omega, j + 1, rest.drop (i + 2), rfl, by simp [v_pd], by simp [v_pd], by simp [v_pd, e0], by omega, ?_, ?_, ?_, hi'⟩
          · have := hsl.1
            simp only [List.length_cons] at hcount
            omega
          · simp only [List.length_cons] at hcount
            omega
          · rw [← List.drop_drop, hdrop]; rfl
      · simp only [↓STEP, SB, looked, behind, lookOk, AAct.kind, AOp.kind, wpRes, evRes, resV, AOp.ev, bin, binI, binS, shiftI, eqV, un, bound, boundO, fill, fillRows, aggOf, keyEq, findKey, putKey, V.cells, V.flat, byteOf, bytesOf, rdOf, H.wr, H.kOf, splice, isYl, ↓reduceIte, Nat.reduceEqDiff, Nat.reduceLeDiff, Nat.reduceLT, Nat.reduceAdd, Nat.reduceSub, Nat.reduceMul, Int.reduceLT, Int.reduceLE, Int.reduceEq, Int.reduceAdd, Int.reduceSub, Int.reduceMul, Int.reduceNeg, Int.reduceToNat, reduceCtorEq, hw1]
        exact .inr hd
    · rw [if_neg h0] at hcut
      rw [linesR_none h0] at hcount
      simp only [↓STEP, SB, looked, behind, lookOk, AAct.kind, AOp.kind, wpRes, evRes, resV, AOp.ev, bin, binI, binS, shiftI, eqV, un, bound, boundO, fill, fillRows, aggOf, keyEq, findKey, putKey, V.cells, V.flat, byteOf, bytesOf, rdOf, H.wr, H.kOf, splice, isYl, ↓reduceIte, Nat.reduceEqDiff, Nat.reduceLeDiff, Nat.reduceLT, Nat.reduceAdd, Nat.reduceSub, Nat.reduceMul, Int.reduceLT, Int.reduceLE, Int.reduceEq, Int.reduceAdd, Int.reduceSub, Int.reduceMul, Int.reduceNeg, Int.reduceToNat, reduceCtorEq, xc, e3, e4, e0, hcut, hw1]
      exact .inl (by have : j = (linesR s).1.length := hcount; rw [← this]; exact hinv)
  · exact ⟨0, s, rfl, by simp [v_pd], by simp [v_pd], by simp [v_pd, v_args_cons], Nat.le_refl _, Nat.zero_le _, by omega, rfl, hi⟩

end Am
