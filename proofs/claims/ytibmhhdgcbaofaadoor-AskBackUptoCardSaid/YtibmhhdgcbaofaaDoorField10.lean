/- Two ways to read a list of fields: what the layer's map holds, and what the document counts. No program in sight. -/
import Derived.Test.YtibmhhdgcbaofaaDoorField8
namespace Am
set_option linter.unusedVariables false
set_option linter.unusedSimpArgs false
set_option maxRecDepth 20000
set_option maxHeartbeats 8000000

def tellP (P : PM → Bool) (fs : List Fd) : Bool := match psF [] false fs with
  | some m => P m
  | none => false
theorem gTell_eq (P : PM → Bool) (p : Option (Nat × Nat)) (n cap : Nat) (ex : Bool) (h : H) : gTell P [.sl p n cap ex] h = (readRows Fd.row h 3 p n).bind fun fs => some (.i .i64 (if tellP P fs = true then 0 else 5), h) := by
  simp only [gTell]
  congr 1
  funext fs
  unfold tellP
  cases psF [] false fs <;> simp
end Am
