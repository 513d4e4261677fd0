/- What the functions of the layer 'field' answer: the pseudo-names at the front of a list. -/
import Derived.Test.YtjcchmmmbegamaaDoorField1
import Derived.Test.YtjcchmmmbegamaaDoorFieldFd
import Derived.Test.YtjcchmmmbegamaaDoorCodesAll
import Derived.Test.YtjcchmmmbegamaaDoorAmAll3
namespace Am
set_option linter.unusedVariables false
set_option linter.unusedSimpArgs false
set_option maxRecDepth 20000
set_option maxHeartbeats 8000000
variable {pr : Prog}

/-! ### Slices of rows, read -/
/-- A slice's rows, as a heap has them, elder than all that will be made. -/
def rowsIn (h : H) (k : Nat) (a : Option (Nat × Nat)) (n : Nat) (rs : List (List V)) : Prop :=
  rs.length = n ∧ (n = 0 ∨ ∃ b r all ro, a = some (b, r) ∧ b < h.nx ∧ h.get b = some (.rows k all ro) ∧ ∀ i row, rs[i]? = some row → all[r + i]? = some row)
theorem rowsIn_kept {h g : H} {k : Nat} {a : Option (Nat × Nat)} {n : Nat} {rs : List (List V)} (hr : rowsIn h k a n rs) (hk : Kept h g) : rowsIn g k a n rs := by
  obtain ⟨l, r⟩ := hr
  refine ⟨l, r.imp id ?_⟩
  rintro ⟨b, s, all, ro, e, hb, hg, hat⟩
  exact ⟨b, s, all, ro, e, Nat.lt_of_lt_of_le hb hk.1, (hk.2 b hb).trans hg, hat⟩

/-! ### Fronts -/
def gPre (as : List V) (h : H) : Option (V × H) :=
  match as with
  | [.s l, .s p] => some (.b (decide (p.length ≤ l.length ∧ l.take p.length = p)), h)
  | _ => none
theorem gPre_eq (l p : List UInt8) (h : H) : gPre [.s l, .s p] h = some (.b (decide (p.length ≤ l.length ∧ l.take p.length = p)), h) := rfl
theorem prefixS_ok : OkF pr c_stringslite_HasPrefix gPre := by
  intro as h v h' hg
  unfold gPre at hg
  split at hg
  · rename_i l p
    cases hg
    unfold wpF c_stringslite_HasPrefix
    refine ⟨by simp, ?_⟩
    by_cases a : (p.length : Int) ≤ (l.length : Int)
    · have a' : p.length ≤ l.length := by omega
      simp only [↓STEP, go_sem, ↓reduceIte, Nat.reduceEqDiff, Nat.reduceLeDiff, Nat.reduceLT, Nat.reduceAdd, Nat.reduceSub, Nat.reduceMul, Int.reduceLT, Int.reduceLE, Int.reduceEq, Int.reduceAdd, Int.reduceSub, Int.reduceMul, Int.reduceNeg, Int.reduceToNat, reduceCtorEq, a]
      exact Abs.eq (by simp [a']) rfl
    · have a' : ¬ p.length ≤ l.length := by omega
      simp only [↓STEP, go_sem, ↓reduceIte, Nat.reduceEqDiff, Nat.reduceLeDiff, Nat.reduceLT, Nat.reduceAdd, Nat.reduceSub, Nat.reduceMul, Int.reduceLT, Int.reduceLE, Int.reduceEq, Int.reduceAdd, Int.reduceSub, Int.reduceMul, Int.reduceNeg, Int.reduceToNat, reduceCtorEq, a]
      exact Abs.eq (by simp [a']) rfl
  · cases hg
theorem prefix_ok {k : Nat} (hw : pr.ext k = some gPre) : OkF pr (c_strings_HasPrefix k) gPre := by
  intro as h v h' hg
  have hg0 := hg
  unfold gPre at hg
  split at hg
  · cases hg
    have hc := @wpCall_ext pr k _ hw
    unfold wpF c_strings_HasPrefix
    refine ⟨by simp, ?_⟩
    simp only [↓STEP, go_sem, ↓reduceIte, Nat.reduceEqDiff, Nat.reduceLeDiff, Nat.reduceLT, Nat.reduceAdd, Nat.reduceSub, Nat.reduceMul, Int.reduceLT, Int.reduceLE, Int.reduceEq, Int.reduceAdd, Int.reduceSub, Int.reduceMul, Int.reduceNeg, Int.reduceToNat, reduceCtorEq, hc, hg0]
    exact Abs.refl
  · cases hg
end Am
