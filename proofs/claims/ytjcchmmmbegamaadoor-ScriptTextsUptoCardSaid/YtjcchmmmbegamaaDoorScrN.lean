/- Script texts: numbers written, in the program and in the document. -/
import Derived.Test.YtjcchmmmbegamaaDoorScrS
import Derived.Test.YtjcchmmmbegamaaDoorCodesAll
import Derived.Lib.ItoaNum
namespace Am
set_option linter.unusedVariables false
set_option linter.unusedSimpArgs false
set_option maxRecDepth 20000
set_option maxHeartbeats 4000000
variable {pr : Prog}

def decF : Nat → Nat → List UInt8
  | 0, _ => []
  | k + 1, u => if u < 10 then [UInt8.ofNat (48 + u)] else decF k (u / 10) ++ [UInt8.ofNat (48 + u % 10)]
def itoF (n : Int) : List UInt8 := if n < 0 then 45 :: decF 20 n.natAbs else decF 20 n.toNat
theorem decF_eq : ∀ (k u : Nat), u < 10 ^ (k + 1) → decF (k + 1) u = Go.Lib.decDigits u
  | 0, u, h => by
    rw [decF, Go.Lib.decDigits, if_pos (by simpa using h), dif_pos (by simpa using h)]
  | k + 1, u, h => by
    rw [decF, Go.Lib.decDigits]
    by_cases h10 : u < 10
    · rw [if_pos h10, dif_pos h10]
    · rw [if_neg h10, dif_neg h10, decF_eq k (u / 10) (by rw [Nat.pow_succ] at h; omega)]
theorem decF_len : ∀ (k u : Nat), (decF k u).length ≤ k
  | 0, u => by simp [decF]
  | k + 1, u => by
    rw [decF]
    split
    · simp
    · have := decF_len k (u / 10); simp; omega
theorem dec20 {u : Nat} (h : u < 10 ^ 20) : decF 20 u = Go.Lib.decDigits u := decF_eq 19 u h
theorem itoF_len (n : Int) : (itoF n).length ≤ 21 := by
  unfold itoF
  split
  · have := decF_len 20 n.natAbs; simp; omega
  · have := decF_len 20 n.toNat; omega
theorem itoF_nat (u : Nat) : itoF (u : Int) = decF 20 u := by
  unfold itoF
  rw [if_neg (by omega)]; rfl

/-- Which numbers are written at a heap. -/
def Zok (Z : H → Int → Bool) : Prop := ∀ h g n, Kept h g → Z h n = true → Z g n = true
def xFmt (Z : H → Int → Bool) (ys : List V) (h : H) : Option (V × H) :=
  match ys with
  | [.i .i64 n, .i .i64 b] => if b = 10 ∧ Z h n = true ∧ -9223372036854775808 ≤ n ∧ n ≤ 9223372036854775807 then some (.s (itoF n), h) else none
  | _ => none
def gNumS (Z : H → Int → Bool) (ys : List V) (h : H) : Option (V × H) :=
  match ys with
  | [.i .i64 n] => if Z h n = true ∧ -9223372036854775808 ≤ n ∧ n ≤ 9223372036854775807 then some (.s (itoF n), h) else none
  | _ => none
theorem gNumS_eq {Z : H → Int → Bool} {n : Int} {h : H} (hz : Z h n = true) (h0 : -9223372036854775808 ≤ n) (h1 : n ≤ 9223372036854775807) : gNumS Z [.i .i64 n] h = some (.s (itoF n), h) := if_pos ⟨hz, h0, h1⟩
theorem numberS_ok {Z : H → Int → Bool} {kf : Nat} (hf : pr.ext kf = some (xFmt Z)) : OkF pr (c_script_number kf) (gNumS Z) := by
  intro ys h v h' hg
  unfold gNumS at hg
  split at hg
  case h_2 => cases hg
  rename_i n
  split at hg
  case isFalse => cases hg
  rename_i hz
  cases hg
  unfold wpF c_script_number
  refine ⟨by simp, ?_⟩
  have hc0 := @wpCall_ext pr kf (xFmt Z) hf
  have hx : xFmt Z [.i .i64 n, .i .i64 10] h = some (.s (itoF n), h) := if_pos ⟨rfl, hz⟩
  simp only [↓STEP, SB, looked, behind, lookOk, AAct.kind, AOp.kind, wpRes, evRes, resV, AOp.ev, bin, binI, binS, shiftI, eqV, un, bound, boundO, fill, fillRows, aggOf, keyEq, findKey, putKey, V.cells, V.flat, byteOf, bytesOf, rdOf, H.wr, H.kOf, splice, isYl, ↓reduceIte, Nat.reduceEqDiff, Nat.reduceLeDiff, Nat.reduceLT, Nat.reduceAdd, Nat.reduceSub, Nat.reduceMul, Int.reduceLT, Int.reduceLE, Int.reduceEq, Int.reduceAdd, Int.reduceSub, Int.reduceMul, Int.reduceNeg, Int.reduceToNat, reduceCtorEq, hc0, hx]
  exact Abs.out rfl rfl Kept.refl

end Am
