/- What the functions of the layer 'field' answer: names. -/
import Derived.Test.YtjcchmmmbegamaaDoorAmAll3
import Derived.Test.YtjcchmmmbegamaaDoorAmAll2
import Derived.Test.YtjcchmmmbegamaaDoorCodesAll
namespace Am
set_option linter.unusedVariables false
set_option linter.unusedSimpArgs false
set_option maxRecDepth 10000
set_option maxHeartbeats 4000000
variable {pr : Prog}
/-- What is asked of a rule that stands for a function. -/
def OkF (pr : Prog) (af : AFunc) (g : List V → H → Option (V × H)) : Prop := ∀ args h v h', g args h = some (v, h') → wpF pr af args h (fun v1 h1 => Abs h v1 h1 v h')

theorem xIndexByte_eq (l : List UInt8) (c : UInt8) (h : H) : xIndexByte [.s l, .i .u8 (c.toNat : Int)] h = some (.i .i64 (fIdx l c), h) := by
  simp [xIndexByte]
theorem indexByteS_ok {k : Nat} (hw : pr.ext k = some xIndexByte) : OkF pr (c_stringslite_IndexByte k) xIndexByte := by
  intro as h v h' hg
  have hg0 := hg
  unfold xIndexByte at hg
  split at hg
  · rename_i l c
    cases hg
    have hc := @wpCall_ext pr k _ hw
    unfold wpF c_stringslite_IndexByte
    refine ⟨by simp, ?_⟩
    simp only [↓STEP, go_sem, ↓reduceIte, Nat.reduceEqDiff, Nat.reduceLeDiff, Nat.reduceLT, Nat.reduceAdd, Nat.reduceSub, Nat.reduceMul, Int.reduceLT, Int.reduceLE, Int.reduceEq, Int.reduceAdd, Int.reduceSub, Int.reduceMul, Int.reduceNeg, Int.reduceToNat, reduceCtorEq, hc, hg0]
    exact Abs.refl
  · cases hg
theorem indexByte_ok' {k : Nat} (hw : pr.ext k = some xIndexByte) : OkF pr (c_strings_IndexByte k) xIndexByte := by
  intro as h v h' hg
  have hg0 := hg
  unfold xIndexByte at hg
  split at hg
  · rename_i l c
    cases hg
    have hc := @wpCall_ext pr k _ hw
    unfold wpF c_strings_IndexByte
    refine ⟨by simp, ?_⟩
    simp only [↓STEP, go_sem, ↓reduceIte, Nat.reduceEqDiff, Nat.reduceLeDiff, Nat.reduceLT, Nat.reduceAdd, Nat.reduceSub, Nat.reduceMul, Int.reduceLT, Int.reduceLE, Int.reduceEq, Int.reduceAdd, Int.reduceSub, Int.reduceMul, Int.reduceNeg, Int.reduceToNat, reduceCtorEq, hc, hg0]
    exact Abs.refl
  · cases hg

def marks : List UInt8 := [33, 35, 36, 37, 38, 39, 42, 43, 45, 46, 94, 95, 96, 124, 126]
end Am
