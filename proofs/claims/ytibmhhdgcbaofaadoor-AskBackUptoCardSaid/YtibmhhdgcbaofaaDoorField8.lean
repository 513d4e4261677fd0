/- What the functions of the document's layer 'field' answer: a list's counts, a name's value. -/
import Derived.Test.YtibmhhdgcbaofaaDoorField7
namespace Am
set_option linter.unusedVariables false
set_option linter.unusedSimpArgs false
set_option maxRecDepth 20000
set_option maxHeartbeats 8000000
variable {pr : Prog}

/-! ### The first value of a name -/
def ofF (k : List UInt8) : List Fd → List UInt8
  | [] => []
  | f :: fs => if f.n = k then f.v else ofF k fs
noncomputable def gOf (as : List V) (h : H) : Option (V × H) :=
  match as with
  | [.sl p n cap ex, .s k] => (readRows Fd.row h 3 p n).bind fun fs => some (.s (ofF k fs), h)
  | _ => none
def OfLoop (h : H) (fs : List Fd) (p : Option (Nat × Nat)) (cap : Nat) (ex : Bool) (s : List UInt8) (k : Nat) (t : Tm) (g : H) : Prop :=
  ∃ (i : Nat), k = fs.length - i ∧ i ≤ fs.length ∧ t.v 5 = .i .i64 i ∧ t.v 0 = .sl p fs.length cap ex ∧ t.v 1 = .s s ∧ Kept h g ∧ ofF s (fs.drop i) = ofF s fs
theorem of_ok : OkF pr c_isthmusref3_Of gOf := by
  intro as h v h' hg
  unfold gOf at hg
  split at hg
  · rename_i p n cap ex s
    obtain ⟨fs, hfs, hg2⟩ := Option.bind_eq_some_iff.1 hg
    clear hg
    obtain ⟨⟨hlen, hrows⟩, hn63⟩ := readRows_spec hfs
    rw [List.length_map] at hlen
    subst hlen
    cases hg2
    unfold wpF c_isthmusref3_Of
    refine ⟨by simp, ?_⟩
    simp only [↓STEP, go_sem, ↓reduceIte, Nat.reduceEqDiff, Nat.reduceLeDiff, Nat.reduceLT, Nat.reduceAdd, Nat.reduceSub, Nat.reduceMul, Int.reduceLT, Int.reduceLE, Int.reduceEq, Int.reduceAdd, Int.reduceSub, Int.reduceMul, Int.reduceNeg, Int.reduceToNat, reduceCtorEq]
    refine wpA_loop_inv (OfLoop h fs p cap ex s) ?_ (m := fs.length) ?_
    · rintro k t g ⟨i, rfl, hi, e5, e0, e1, hk, hs⟩
      by_cases hlt : i < fs.length
      · have hlt' : (i : Int) < (fs.length : Int) := by omega
        obtain ⟨bb, r, all, ro, rfl, hbb, hgb, hat⟩ := hrows.resolve_left (by omega)
        have hgb' : g.get bb = some (.rows 3 all ro) := by rw [hk.2 bb hbb]; exact hgb
        have hrw : all[r + i]? = some [.s fs[i].n, .s fs[i].v, .b fs[i].z] := hat i _ (by rw [List.getElem?_map, List.getElem?_eq_getElem hlt]; rfl)
        have hwr : Go.IntKind.wrap .i64 ((i : Int) + 1) = (i : Int) + 1 := wrap_i64 (by omega) (by omega)
        have hd : fs.drop i = fs[i] :: fs.drop (i + 1) := List.drop_eq_getElem_cons hlt
        rw [hd, ofF] at hs
        by_cases c : fs[i].n = s
        · have c' := eq_true c
          rw [if_pos c] at hs
          simp only [↓STEP, go_sem, ↓reduceIte, Nat.reduceEqDiff, Nat.reduceLeDiff, Nat.reduceLT, Nat.reduceAdd, Nat.reduceSub, Nat.reduceMul, Int.reduceLT, Int.reduceLE, Int.reduceEq, Int.reduceAdd, Int.reduceSub, Int.reduceMul, Int.reduceNeg, Int.reduceToNat, reduceCtorEq, e5, e0, e1, hgb', hrw, hlt', hwr, c']
          exact Abs.out (by rw [hs]) rfl hk
        · rw [if_neg c] at hs
          simp only [↓STEP, go_sem, ↓reduceIte, Nat.reduceEqDiff, Nat.reduceLeDiff, Nat.reduceLT, Nat.reduceAdd, Nat.reduceSub, Nat.reduceMul, Int.reduceLT, Int.reduceLE, Int.reduceEq, Int.reduceAdd, Int.reduceSub, Int.reduceMul, Int.reduceNeg, Int.reduceToNat, reduceCtorEq, e5, e0, e1, hgb', hrw, hlt', hwr, c]
          exact ⟨_, by omega, i + 1, rfl, by omega, by simp [v_pd, v_pd0], by simp [v_pd, v_pd0, e0], by simp [v_pd, v_pd0, e1], hk, hs⟩
      · have hlt' : ¬ (i : Int) < (fs.length : Int) := by omega
        have : i = fs.length := by omega
        rw [this, List.drop_length, ofF] at hs
        simp only [↓STEP, go_sem, ↓reduceIte, Nat.reduceEqDiff, Nat.reduceLeDiff, Nat.reduceLT, Nat.reduceAdd, Nat.reduceSub, Nat.reduceMul, Int.reduceLT, Int.reduceLE, Int.reduceEq, Int.reduceAdd, Int.reduceSub, Int.reduceMul, Int.reduceNeg, Int.reduceToNat, reduceCtorEq, e5, e0, e1, hlt']
        exact Abs.out (by rw [hs]) rfl hk
    · exact ⟨0, rfl, Nat.zero_le _, by simp only [↓STEP, go_sem, ↓reduceIte, Nat.reduceEqDiff, Nat.reduceLeDiff, Nat.reduceLT, Nat.reduceAdd, Nat.reduceSub, Nat.reduceMul, Int.reduceLT, Int.reduceLE, Int.reduceEq, Int.reduceAdd, Int.reduceSub, Int.reduceMul, Int.reduceNeg, Int.reduceToNat, reduceCtorEq], by simp only [↓STEP, go_sem, ↓reduceIte, Nat.reduceEqDiff, Nat.reduceLeDiff, Nat.reduceLT, Nat.reduceAdd, Nat.reduceSub, Nat.reduceMul, Int.reduceLT, Int.reduceLE, Int.reduceEq, Int.reduceAdd, Int.reduceSub, Int.reduceMul, Int.reduceNeg, Int.reduceToNat, reduceCtorEq], by simp only [↓STEP, go_sem, ↓reduceIte, Nat.reduceEqDiff, Nat.reduceLeDiff, Nat.reduceLT, Nat.reduceAdd, Nat.reduceSub, Nat.reduceMul, Int.reduceLT, Int.reduceLE, Int.reduceEq, Int.reduceAdd, Int.reduceSub, Int.reduceMul, Int.reduceNeg, Int.reduceToNat, reduceCtorEq], Kept.refl, rfl⟩
  · cases hg
end Am
