/- The law AskBase, over what writing and reading base64 give. -/
import Derived.Test.YtibmhhdgcbaofaaDoorAsk6
namespace Am
set_option linter.unusedVariables false
set_option linter.unusedSimpArgs false
set_option maxRecDepth 20000
set_option maxHeartbeats 4000000
variable {pr : Prog}

theorem gCode_eq {a : Option (Nat × Nat)} {n c : Nat} {ex : Bool} {l : List UInt8} {h : H} (hn : n ≤ 20000000) (hl : rdB h a n = some l) : gCode [.sl a n c ex] h = some (.s (codeP l), h) := by
  unfold gCode; simp only [if_pos hn, hl, Option.bind_some]

end Am
