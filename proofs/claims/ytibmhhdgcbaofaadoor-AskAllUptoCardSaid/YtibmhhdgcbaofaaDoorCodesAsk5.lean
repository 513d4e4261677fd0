/- The compiled code of some functions; printed by program. -/
import Derived.Test.YtibmhhdgcbaofaaDoorAmAll1
namespace Am
set_option linter.unusedVariables false
set_option maxRecDepth 20000
noncomputable def c_frame_padded : AFunc := ⟨13, [(.tmp 2)], (.seq (.region [⟨(some 2), (.op (.mv (.c (.b false)))), none, 0⟩]) (.seq (.region [⟨(some 3), (.op (.mv (.t 0))), none, 0⟩, ⟨(some 4), (.op (.bin .eql (.t 3) (.c (.i .i64 0)))), none, 0⟩, ⟨(some 5), (.op (.mv (.t 4))), none, 0⟩, ⟨(some 6), (.op (.mv (.t 0))), (some (5, false)), 0⟩, ⟨(some 7), (.op (.bin .eql (.t 6) (.c (.i .i64 1)))), (some (5, false)), 0⟩, ⟨(some 8), (.op (.pick (.t 5) (.c (.b true)) (.t 7))), none, 0⟩, ⟨(some 9), (.op (.mv (.t 8))), none, 0⟩, ⟨(some 10), (.op (.mv (.t 0))), (some (9, false)), 0⟩, ⟨(some 11), (.op (.bin .eql (.t 10) (.c (.i .i64 5)))), (some (9, false)), 0⟩, ⟨(some 12), (.op (.pick (.t 9) (.c (.b true)) (.t 11))), none, 0⟩, ⟨(some 2), (.op (.mv (.t 12))), none, 0⟩]) .ret))⟩
end Am
