/- Short names of code. -/
import Derived.Test.YtkhnielggkcbiaaGreatDoorProg
import Derived.Test.YtkhnielggkcbiaaGreatDoorAmLit
import Derived.KernelRfl
namespace Go.Proofs.YtkhnielggkcbiaaGreatDoor.LitPair
open Am
set_option linter.all false
def m (d n : Nat) : AOper := ⟨some d, .op (.mv (.t n)), none, 0⟩
def z (d n : Nat) : AOper := ⟨some d, .op (.nilCheck (.t n)), none, 0⟩
def d (d n : Nat) : AOper := ⟨some d, .op (.load 1 false (.t n)), none, 0⟩
def f (d k n : Nat) : AOper := ⟨some d, .op (.fa k (.t n)), none, 0⟩
def i (d : Nat) (n : Int) : AOper := ⟨some d, .op (.mv (.c (.i .i64 n))), none, 0⟩
def o (d : Nat) (x : AOp) : AOper := ⟨some d, .op x, none, 0⟩
def q (x : AOp) : AOper := ⟨none, .op x, none, 0⟩
def g (d : Nat) (x : AOp) (a : Nat) (b : Bool) : AOper := ⟨some d, .op x, some (a, b), 0⟩
def k (d f : Nat) (l : List AOpd) : AOper := ⟨some d, .call (.fn f) l, none, 0⟩
def r (l : List AOper) : ACode := .region l
def s (a b : ACode) : ACode := .seq a b
def c (n : Int) : AOpd := .c (.i .i64 n)
def t (n : Nat) : AOpd := .t n
end Go.Proofs.YtkhnielggkcbiaaGreatDoor.LitPair
