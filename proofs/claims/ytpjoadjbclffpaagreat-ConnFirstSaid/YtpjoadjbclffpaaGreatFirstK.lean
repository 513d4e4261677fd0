/- The law ConnFirst at its seat: the heap behind so many requests, and the kernel's runs of one more. -/
import Derived.Test.YtpjoadjbclffpaaGreatFirstK0
namespace Go.Proofs.YtpjoadjbclffpaaGreat.FirstK
open Am
set_option linter.all false
set_option maxRecDepth 100000
theorem listX : ExtFor Tryz.prog 11 (xConst vList0) := by
  obtain ⟨v, h', hv, hk⟩ := runK_true prB 3000 _ _ _ _ listK
  have e : v = vList0 := by
    unfold isV vList0 at hk
    cases v <;> first | (cases hk; done) | skip
    rename_i ws
    have := relsB_yes hk
    have key : ∀ (vs ws : List V), V.rels (fun a b => Nat.beq a b = true) vs ws → (∀ v ∈ vs, ∃ n, v = V.i .i64 n) → ws = vs := by
      intro vs
      induction vs with
      | nil => intro ws h _; cases ws with | nil => rfl | cons _ _ => cases h
      | cons v vs ih =>
        intro ws h hv
        cases ws with
        | nil => cases h
        | cons w ws =>
          obtain ⟨n, rfl⟩ := hv v (by simp)
          rw [ih ws h.2 fun v hm => hv v (by simp [hm])]
          congr 1
          have h1 := h.1
          cases w <;> first | (cases h1; done) | (obtain ⟨rfl, rfl⟩ := h1; rfl)
    rw [key _ ws this (by simp)]; rfl
  rw [e] at hv
  exact ExtFor.closed okB (by kernel_rfl) hv rfl
noncomputable def prC : Prog := prB.add 11 (xConst vList0)
theorem okC : ProgOk Tryz.prog prC := okB.addFor listX
noncomputable def putT (t : Tr Blk) (i : Nat) (x : Blk) : Tr Blk := putK (Nat.add i 1) t i (some x)
noncomputable def fixT : Tr Blk := (putT (putT (putT (putT (putT (putT (putT (putT (putT (putT .e 4096 (.rows 3 [[(.i .i64 4096), (.i .i64 0), (.sl none 0 0 true)]] false)) 4097 (.rows 4 [[(.p (some (4096, 0, 0))), (.i .i64 4096), (.i .i64 4096), (.i .i64 4096)]] false)) 4098 (.rows 4 [[(.i .i64 0), (.b false), (.b false), (.sl none 0 0 true)]] false)) 4100 (.rows 3 [[(.i .i64 65535), (.i .i64 65535), (.i .i64 0)]] false)) 4101 (.rows 1 [[(.i .i64 65535)]] false)) 4103 (.rows 5 [[(.i .i64 4096), (.i .i64 10), (.i .i64 65535), (.i .i64 16384), (.i .i64 1000)]] false)) 4104 (.rows 12 [[(.sl (some (4103, 0)) 1 1 true), (.i .i64 4096), (.i .i64 10), (.i .i64 65535), (.i .i64 16384), (.i .i64 1000), (.i .i64 4096), (.i .i64 10), (.i .i64 65535), (.i .i64 16384), (.i .i64 1000), (.b false)]] false)) 4105 (.rows 4 [[(.b false), (.i .i64 16384), (.sl none 0 0 true), (.i .i64 0)]] false)) 4106 (.rows 3 [[(.i .i64 4096), (.i .i64 0), (.sl none 0 0 true)]] false)) 4107 (.rows 4 [[(.p (some (4106, 0, 0))), (.i .i64 4096), (.b false), (.b false)]] false))
noncomputable def subT : Nat → Tr Blk := Nat.rec (motive := fun _ => Tr Blk) fixT (fun i t => putT (putT (putT (putT t (4110 + 7 * i) (.rows 2 [[(.i .i64 2), (.i .i64 0)]] false)) (4111 + 7 * i) (.rows 3 [[(.i .i64 65535), (.i .i64 65535), (.i .i64 0)]] false)) (4112 + 7 * i) (.rows 1 [[(.i .i64 65535)]] false))
  (4113 + 7 * i) (.rows 7 [[(.p (some (4110 + 7 * i, 0, 0))), (.p (some (4111 + 7 * i, 0, 0))), (.p (some (4112 + 7 * i, 0, 0))), (.b false), (.b true), (.sl none 0 0 true), (.b true)]] false))
def rl : Nat → Nat → List (List V)
  | 0, _ => []
  | m + 1, i => [.i .i64 (.ofNat (2 * i + 1)), .p (some (4113 + 7 * i, 0, 0))] :: rl m (i + 1)
def ql : Nat → Nat → List UInt8
  | 0, _ => []
  | m + 1, i => 0 :: 0 :: 3 :: 1 :: 5 :: 0 :: 0 :: 0 :: UInt8.ofNat (2 * i + 1) :: 130 :: 134 :: 132 :: ql m (i + 1)
def qb : List UInt8 := [80, 82, 73, 32, 42, 32, 72, 84, 84, 80, 47, 50, 46, 48, 13, 10, 13, 10, 83, 77, 13, 10, 13, 10, 0, 0, 36, 4, 0, 0, 0, 0, 0, 0, 1, 0, 0, 16, 0, 0, 2, 0, 0, 0, 0, 0, 3, 0, 0, 0, 10, 0, 4, 0, 0, 255, 255, 0, 5, 0, 0, 64, 0, 0, 6, 0, 0, 3, 232]
noncomputable def conT (k : Nat) : Tr Blk := putT (putT (subT k) 4102 (.rows 24 [[(.i .i64 1), (.p (some (4104, 0, 0))), (.i .i64 4096), (.i .i64 4294967295), (.i .i64 65535), (.i .i64 16384), (.i .i64 4294967295), (.p (some (4105, 0, 0))), (.p (some (4107, 0, 0))), (.p (some (4097, 0, 0))), (.p (some (4100, 0, 0))), (.p (some (4101, 0, 0))), (.p (some (4098, 0, 0))), (.p (some (4099, 0, 0))), (.sl (some (4108 + 7 * k, 0)) (69 + 12 * k) (69 + 12 * k) false), (.b false), (.b false), (.b false), (.b false), (.i .i64 (.ofNat (2 * k + 1))), (.i .i64 0), (.i .i64 (-1)), (.i .i64 (-1)), (.sl none 0 0 true)]] false)) (4108 + 7 * k) (.bytes (qb ++ ql k 0) false)
/-- The heap behind k requests. -/
noncomputable def S (k : Nat) : H := Nat.rec (motive := fun _ => H) ⟨4109, putT (conT 0) 4099 (.rows 3 [[(.sl none 0 0 true), (.sl none 0 0 true), (.i .i64 0)]] false)⟩
  (fun j _ => ⟨4109 + 7 * (j + 1), putT (putT (conT (j + 1)) 4099 (.rows 3 [[(.sl (some (4107 + 7 * (j + 1), 0)) (j + 1) (j + 1) false), (.sl none 0 0 true), (.i .i64 (.ofNat (2 * j + 1)))]] false)) (4107 + 7 * (j + 1)) (.rows 2 (rl (j + 1) 0) false)⟩) k
def getB : Blk := (.rows 3 [[(.s [58, 109, 101, 116, 104, 111, 100]), (.s [71, 69, 84]), (.b false)], [(.s [58, 115, 99, 104, 101, 109, 101]), (.s [104, 116, 116, 112]), (.b false)], [(.s [58, 112, 97, 116, 104]), (.s [47]), (.b false)]] false)
noncomputable def G (k : Nat) : H := (S k).push getB
noncomputable def argsR (k : Nat) : List V := [.p (some (4102, 0, 0)), .sl (some (4109 + 7 * k, 0)) 3 3 true, .b true]
noncomputable def newL (k : Nat) : List Nat := [4123 + 7 * k, 4125 + 7 * k, 4126 + 7 * k, 4127 + 7 * k, 4129 + 7 * k, 4211 + 7 * k]
noncomputable def ansR (k : Nat) : V := .tup [.i .i64 (.ofNat (2 * k + 1)), .i .i64 0]
noncomputable def T1 : H := ⟨4810, (S 100).tr⟩
noncomputable def noT (t : Tr Blk) (i : Nat) : Tr Blk := putK (Nat.add i 1) t i none
noncomputable def T2 : H := ⟨4812, putT (putT (putT (putT (putT (noT (noT (noT (noT (noT (S 100).tr 4808) 4110) 4111) 4112) 4113) 4099 (.rows 3 [[(.sl (some (4807, 0)) 99 100 false), (.sl (some (4811, 0)) 1 1 false), (.i .i64 199)]] false)) 4102 (.rows 24 [[(.i .i64 1), (.p (some (4104, 0, 0))), (.i .i64 4096), (.i .i64 4294967295), (.i .i64 65535), (.i .i64 16384), (.i .i64 4294967295), (.p (some (4105, 0, 0))), (.p (some (4107, 0, 0))), (.p (some (4097, 0, 0))), (.p (some (4100, 0, 0))), (.p (some (4101, 0, 0))), (.p (some (4098, 0, 0))), (.p (some (4099, 0, 0))), (.sl (some (4810, 0)) (1282) (1282) false), (.b false), (.b false), (.b false), (.b false), (.i .i64 (201)), (.i .i64 0), (.i .i64 (-1)), (.i .i64 (-1)), (.sl none 0 0 true)]] false)) 4807 (.rows 2 (rl 99 1 ++ [[.i .i64 0, .p none]]) false)) 4810 (.bytes (qb ++ ql 100 0 ++ [0, 0, 4, 3, 0, 0, 0, 0, 1, 0, 0, 0, 8]) false)) 4811 (.rows 2 [[(.i .i64 1), (.i .i64 3)]] false)⟩
/-- The calls of Request: a hundred that go, two that do not. -/
noncomputable def qA (k : Nat) : List V := if k = 101 then [.p (some (4102, 0, 0)), .sl (some (4812, 0)) 3 3 true, .b true] else argsR k
noncomputable def qG (k : Nat) : H := if k = 101 then T2.push getB else G k
noncomputable def ansN : V := .tup [.i .i64 0, .i .i64 9]
noncomputable def qV (k : Nat) : V := if k < 100 then ansR k else ansN
noncomputable def qS (k : Nat) : H := if k < 100 then S (k + 1) else if k = 100 then T1 else ⟨4813, T2.tr⟩
noncomputable def qL (k : Nat) : List Nat := if k < 100 then newL k else []
noncomputable def reqOk (k : Nat) : Bool := runK prC 3000 (.fn 15) (argsR k) (G k) (swept (G k) (S (k + 1)) (newL k) (ansR k))
noncomputable def req100 : Bool := runK prC 3000 (.fn 15) (argsR 100) (G 100) (swept (G 100) T1 [] ansN)
noncomputable def req101 : Bool := runK prC 3000 (.fn 15) [.p (some (4102, 0, 0)), .sl (some (4812, 0)) 3 3 true, .b true] (T2.push getB) (swept (T2.push getB) ⟨4813, T2.tr⟩ [] ansN)
noncomputable def resetOk : Bool := runK prC 3000 (.fn 22) [.p (some (4102, 0, 0)), .i .i64 1, .i .i64 8] T1 (swept T1 T2 [4842, 4852] (.i .i64 0))
noncomputable def newOk : Bool := runK prC 3000 (.fn 10) [.i .i64 1, vList0] h0 (swept h0 (S 0) [4105, 4106, 4107, 4108, 4109, 4110, 4111, 4115, 4116, 4117, 4118, 4119, 4215] (.tup [.p (some (4102, 0, 0)), .i .i64 0]))
theorem newT : newOk = true := by kernel_rfl
end Go.Proofs.YtpjoadjbclffpaaGreat.FirstK
