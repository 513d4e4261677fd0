/- AmLit: a program whose code is written out. -/
import Derived.Test.YtkhnielggkcbiaaGreatDoorAmFast4
import Derived.Test.YtkhnielggkcbiaaGreatDoorAmAll2
namespace Am
set_option linter.all false
open Go (IntKind BinOp UnOp Value Program)

def Prog.emp : Prog := ⟨fun _ => none, fun _ => none⟩
theorem emp_ok (P : Program) : ProgOk P Prog.emp := ⟨fun f af h => (by cases h), fun f g h => (by cases h), fun R hR => draw_sound hR⟩
noncomputable def Prog.put (pr : Prog) (f : Nat) (af : AFunc) : Prog := { pr with fn := fun i => @Bool.rec (fun _ => Option AFunc) (pr.fn i) (some af) (Nat.beq i f) }
theorem ProgOk.put {P : Program} {pr : Prog} (hp : ProgOk P pr) {f : Nat} {af : AFunc} (h : (progOf P).fn f = some af) : ProgOk P (pr.put f af) := by
  refine ⟨fun i a hi => ?_, hp.ext, hp.draw⟩
  have hi : @Bool.rec (fun _ => Option AFunc) (pr.fn i) (some af) (Nat.beq i f) = some a := hi
  by_cases he : i = f
  · rw [beq_yes he] at hi
    cases hi
    rw [he]
    exact (progOf_ok P).fn f af h
  · rw [beq_no he] at hi
    exact hp.fn i a hi
noncomputable def findK (c : Nat) : List UInt8 → Nat → Int := @List.rec UInt8 (fun _ => Nat → Int) (fun _ => .negSucc 0) (fun b _ ih i => @Bool.rec (fun _ => Int) (ih (Nat.add i 1)) (.ofNat i) (Nat.beq b.toBitVec.toFin.val c))
theorem findK_eq (c : UInt8) : ∀ (l : List UInt8) (i : Nat), findK c.toBitVec.toFin.val l i = match l.findIdx? (fun b => b == c) with
    | some j => ((j + i : Nat) : Int)
    | none => -1
  | [], i => rfl
  | b :: l, i => by
    show @Bool.rec (fun _ => Int) (findK c.toBitVec.toFin.val l (i + 1)) (.ofNat i) (eqU b c) = _
    rw [eqU_eq, List.findIdx?_cons, findK_eq c l (i + 1)]
    by_cases h : b = c
    · subst h; simp
    · have : (b == c) = false := by simpa using h
      rw [this, decide_eq_false h]
      cases l.findIdx? (fun b => b == c) with
      | none => rfl
      | some j => show ((j + (i + 1) : Nat) : Int) = ((j + 1 + i : Nat) : Int); omega
noncomputable def xIndexByteK (args : List V) (h : H) : Option (V × H) :=
  match args with
  | [.s l, .i .u8 c] => some (.i .i64 (findK c.toNat.toUInt8.toBitVec.toFin.val l 0), h)
  | _ => none
theorem xIndexByteK_eq : xIndexByteK = xIndexByte := by
  funext args h
  unfold xIndexByteK xIndexByte
  split
  · rename_i l c
    have e : findK c.toNat.toUInt8.toBitVec.toFin.val l 0 = fIdx l c.toNat.toUInt8 := by
      rw [findK_eq]
      unfold fIdx
      cases l.findIdx? (fun b => b == c.toNat.toUInt8) <;> rfl
    rw [e]
  · rename_i hne
    split
    · rename_i l c; exact absurd rfl (hne l c)
    · rfl
end Am
