/- base64 for URLs: what writing and reading it give, in the program and in the document. -/
import Derived.Test.YtjcchmmmbegamaaDoorBs
import Derived.Test.YtjcchmmmbegamaaDoorField1
import Derived.Test.YtjcchmmmbegamaaDoorAmAll1
namespace Am
set_option linter.unusedVariables false
set_option linter.unusedSimpArgs false
set_option maxRecDepth 20000
set_option maxHeartbeats 4000000
variable {pr : Prog}

def letL : List UInt8 := [65, 66, 67, 68, 69, 70, 71, 72, 73, 74, 75, 76, 77, 78, 79, 80, 81, 82, 83, 84, 85, 86, 87, 88, 89, 90, 97, 98, 99, 100, 101, 102, 103, 104, 105, 106, 107, 108, 109, 110, 111, 112, 113, 114, 115, 116, 117, 118, 119, 120, 121, 122, 48, 49, 50, 51, 52, 53, 54, 55, 56, 57, 45, 95]
def let6 (n : Nat) : UInt8 := letL.getD n 0
structure Enc where
  w : Nat
  k : Nat
  out : List UInt8
def Enc.step (s : Enc) (c : UInt8) : Enc :=
  if s.k = 0 then ⟨(s.w * 256 + c.toNat) % 4, 2, s.out ++ [let6 ((s.w * 256 + c.toNat) / 4 % 64)]⟩
  else if s.k = 2 then ⟨(s.w * 256 + c.toNat) % 16, 4, s.out ++ [let6 ((s.w * 256 + c.toNat) / 16 % 64)]⟩
  else ⟨0, 0, s.out ++ [let6 ((s.w * 256 + c.toNat) / 64 % 64), let6 ((s.w * 256 + c.toNat) % 64)]⟩
def Enc.of (l : List UInt8) : Enc := l.foldl Enc.step ⟨0, 0, []⟩
def Enc.ok (s : Enc) : Prop := (s.k = 0 ∧ s.w = 0) ∨ (s.k = 2 ∧ s.w < 4) ∨ (s.k = 4 ∧ s.w < 16)
def Enc.fin (s : Enc) : List UInt8 :=
  if s.k = 0 then s.out else if s.k = 2 then s.out ++ [let6 (s.w * 16 % 64)] else s.out ++ [let6 (s.w * 4 % 64)]
end Am
