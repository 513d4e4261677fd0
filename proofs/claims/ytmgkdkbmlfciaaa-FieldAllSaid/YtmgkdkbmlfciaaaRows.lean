/-
  No cell of these rows narrows 'for every input' (looked for: loops, veiled, ifaces, maps, wideKeys, modest, calm, conditions, laid).
  DERIVED. THE GIVEN ROWS OF THIS SEAT. 7 by the template 'for every input the law returns true; each argument reads behind the call as it read before'; 0 by the template 'total and deterministic' (their statements: YtmgkdkbmlfciaaaTotals.lean).
  GIVEN WITH THE SEED: the statements are not yours to turn. If you find one false, say at which input.
  Laid BY PROGRAM, IN A SANDBOX (cutbox-rows.mjs): the forced cells as the released guide's own fill.sh prints them over the translation 1eadab1f50963c8d… (all of the seat's roots in one cut). By AI agents, Wed Nov 11 2026. No macro, syntax, notation, axiom, sorry.
-/
import Derived.Test.YtmgkdkbmlfciaaaChecked
import GoSem.Claim
import GoSem.ClaimJoined
import GoSem.ClaimMapViews
import Derived.JoinedTies
import Derived.KernelRfl
namespace Go.Proofs.Ytmgkdkbmlfciaaa
/- THE CELL 'sum', in the pinned program and in every row, IS THE sha256 OF THE DUMP (.gsa) THAT YtmgkdkbmlfciaaaProg.lean LOADS. Nothing in Lean hashes anything: it is a label: what it is worth is what the hold of that sum in a sandbox is worth. -/
noncomputable def Try.pinned : Pinned := { name := "ytmgkdkbmlfciaaa", sum := "1eadab1f50963c8d58620970ab90542bc72d4e8c196899d60789f3dee4e180e5", checked := Try.checked }
namespace Rows
def none {H : Type} : Left H := { results := [], args := [] }

/-- 'isthmuslaw3.FieldParts': WHATEVER THE INPUT: true; the input reads as it did. -/
def fieldPartsSpec : ChangeSpec := { name := "fieldParts", fn := fun _ => fun
  | [d] => { results := [.lit (.bool true)], args := [d] }
  | _ => none }
def fieldPartsRow : OpenClaim := { program := "ytmgkdkbmlfciaaa", sum := "1eadab1f50963c8d58620970ab90542bc72d4e8c196899d60789f3dee4e180e5", func := "isthmus/isthmuslaw3.FieldParts", spec := "fieldParts", inPlace := ["internal/bytealg.IndexByteString", "internal/bytealg.IndexString"], unfollowed := true, recurses := true, named := ["internal/bytealg.MaxLen"], apart := false }
def FieldPartsSaid : Prop := fieldPartsRow.holds Try.pinned (OpenSpec.ofChange fieldPartsSpec)

/-- ITS FALSE NEIGHBOUR: 'it returns false'. Refute it at one input. -/
def fieldPartsWrong : ChangeSpec := { name := "fieldParts", fn := fun _ => fun
  | [d] => { results := [.lit (.bool false)], args := [d] }
  | _ => none }
def FieldPartsWrongFalsely : Prop := fieldPartsRow.holds Try.pinned (OpenSpec.ofChange fieldPartsWrong)

/-- 'isthmuslaw3.FieldLists': WHATEVER THE INPUT: true; the input reads as it did. -/
def fieldListsSpec : ChangeSpec := { name := "fieldLists", fn := fun _ => fun
  | [d] => { results := [.lit (.bool true)], args := [d] }
  | _ => none }
def fieldListsRow : OpenClaim := { program := "ytmgkdkbmlfciaaa", sum := "1eadab1f50963c8d58620970ab90542bc72d4e8c196899d60789f3dee4e180e5", func := "isthmus/isthmuslaw3.FieldLists", spec := "fieldLists", inPlace := ["internal/bytealg.IndexByteString", "internal/bytealg.IndexString"], unfollowed := true, recurses := true, named := ["internal/bytealg.MaxLen"], apart := false }
def FieldListsSaid : Prop := fieldListsRow.holds Try.pinned (OpenSpec.ofChange fieldListsSpec)

/-- ITS FALSE NEIGHBOUR: 'it returns false'. Refute it at one input. -/
def fieldListsWrong : ChangeSpec := { name := "fieldLists", fn := fun _ => fun
  | [d] => { results := [.lit (.bool false)], args := [d] }
  | _ => none }
def FieldListsWrongFalsely : Prop := fieldListsRow.holds Try.pinned (OpenSpec.ofChange fieldListsWrong)

/-- 'isthmuslaw3.FieldMore': WHATEVER THE INPUT: true; the input reads as it did. -/
def fieldMoreSpec : ChangeSpec := { name := "fieldMore", fn := fun _ => fun
  | [d1, d2, d3] => { results := [.lit (.bool true)], args := [d1, d2, d3] }
  | _ => none }
def fieldMoreRow : OpenClaim := { program := "ytmgkdkbmlfciaaa", sum := "1eadab1f50963c8d58620970ab90542bc72d4e8c196899d60789f3dee4e180e5", func := "isthmus/isthmuslaw3.FieldMore", spec := "fieldMore", inPlace := ["internal/bytealg.IndexByteString", "internal/bytealg.IndexString"], unfollowed := true, recurses := true, named := ["internal/bytealg.MaxLen"], apart := false }
def FieldMoreSaid : Prop := fieldMoreRow.holds Try.pinned (OpenSpec.ofChange fieldMoreSpec)

/-- ITS FALSE NEIGHBOUR: 'it returns false'. Refute it at one input. -/
def fieldMoreWrong : ChangeSpec := { name := "fieldMore", fn := fun _ => fun
  | [d1, d2, d3] => { results := [.lit (.bool false)], args := [d1, d2, d3] }
  | _ => none }
def FieldMoreWrongFalsely : Prop := fieldMoreRow.holds Try.pinned (OpenSpec.ofChange fieldMoreWrong)

/-- 'isthmuslaw3.FieldStatic': WHATEVER THE INPUT: true; the input reads as it did. -/
def fieldStaticSpec : ChangeSpec := { name := "fieldStatic", fn := fun _ => fun
  | [d1, d2, d3] => { results := [.lit (.bool true)], args := [d1, d2, d3] }
  | _ => none }
def fieldStaticRow : OpenClaim := { program := "ytmgkdkbmlfciaaa", sum := "1eadab1f50963c8d58620970ab90542bc72d4e8c196899d60789f3dee4e180e5", func := "isthmus/isthmuslaw3.FieldStatic", spec := "fieldStatic", inPlace := ["internal/bytealg.IndexByteString", "internal/bytealg.IndexString"], unfollowed := true, recurses := true, named := ["internal/bytealg.MaxLen"], apart := false }
def FieldStaticSaid : Prop := fieldStaticRow.holds Try.pinned (OpenSpec.ofChange fieldStaticSpec)

/-- ITS FALSE NEIGHBOUR: 'it returns false'. Refute it at one input. -/
def fieldStaticWrong : ChangeSpec := { name := "fieldStatic", fn := fun _ => fun
  | [d1, d2, d3] => { results := [.lit (.bool false)], args := [d1, d2, d3] }
  | _ => none }
def FieldStaticWrongFalsely : Prop := fieldStaticRow.holds Try.pinned (OpenSpec.ofChange fieldStaticWrong)

/-- 'isthmuslaw3.FieldAll': WHATEVER THE INPUT: true; the input reads as it did. -/
def fieldAllSpec : ChangeSpec := { name := "fieldAll", fn := fun _ => fun
  | [d] => { results := [.lit (.bool true)], args := [d] }
  | _ => none }
def fieldAllRow : OpenClaim := { program := "ytmgkdkbmlfciaaa", sum := "1eadab1f50963c8d58620970ab90542bc72d4e8c196899d60789f3dee4e180e5", func := "isthmus/isthmuslaw3.FieldAll", spec := "fieldAll", inPlace := ["internal/bytealg.IndexByteString", "internal/bytealg.IndexString"], unfollowed := true, recurses := true, named := ["internal/bytealg.MaxLen"], apart := false }
def FieldAllSaid : Prop := fieldAllRow.holds Try.pinned (OpenSpec.ofChange fieldAllSpec)

/-- ITS FALSE NEIGHBOUR: 'it returns false'. Refute it at one input. -/
def fieldAllWrong : ChangeSpec := { name := "fieldAll", fn := fun _ => fun
  | [d] => { results := [.lit (.bool false)], args := [d] }
  | _ => none }
def FieldAllWrongFalsely : Prop := fieldAllRow.holds Try.pinned (OpenSpec.ofChange fieldAllWrong)

/-- 'isthmuslaw3.FieldTurn': WHATEVER THE INPUT: true; the input reads as it did. -/
def fieldTurnSpec : ChangeSpec := { name := "fieldTurn", fn := fun _ => fun
  | [d1, d2, d3] => { results := [.lit (.bool true)], args := [d1, d2, d3] }
  | _ => none }
def fieldTurnRow : OpenClaim := { program := "ytmgkdkbmlfciaaa", sum := "1eadab1f50963c8d58620970ab90542bc72d4e8c196899d60789f3dee4e180e5", func := "isthmus/isthmuslaw3.FieldTurn", spec := "fieldTurn", inPlace := ["internal/bytealg.IndexByteString", "internal/bytealg.IndexString"], unfollowed := true, recurses := true, named := ["internal/bytealg.MaxLen"], apart := false }
def FieldTurnSaid : Prop := fieldTurnRow.holds Try.pinned (OpenSpec.ofChange fieldTurnSpec)

/-- ITS FALSE NEIGHBOUR: 'it returns false'. Refute it at one input. -/
def fieldTurnWrong : ChangeSpec := { name := "fieldTurn", fn := fun _ => fun
  | [d1, d2, d3] => { results := [.lit (.bool false)], args := [d1, d2, d3] }
  | _ => none }
def FieldTurnWrongFalsely : Prop := fieldTurnRow.holds Try.pinned (OpenSpec.ofChange fieldTurnWrong)

/-- 'isthmuslaw3.FieldCase': WHATEVER THE INPUT: true; the input reads as it did. -/
def fieldCaseSpec : ChangeSpec := { name := "fieldCase", fn := fun _ => fun
  | [d1, d2, d3] => { results := [.lit (.bool true)], args := [d1, d2, d3] }
  | _ => none }
def fieldCaseRow : OpenClaim := { program := "ytmgkdkbmlfciaaa", sum := "1eadab1f50963c8d58620970ab90542bc72d4e8c196899d60789f3dee4e180e5", func := "isthmus/isthmuslaw3.FieldCase", spec := "fieldCase", inPlace := ["internal/bytealg.IndexByteString", "internal/bytealg.IndexString"], unfollowed := true, recurses := true, named := ["internal/bytealg.MaxLen"], apart := false }
def FieldCaseSaid : Prop := fieldCaseRow.holds Try.pinned (OpenSpec.ofChange fieldCaseSpec)

/-- ITS FALSE NEIGHBOUR: 'it returns false'. Refute it at one input. -/
def fieldCaseWrong : ChangeSpec := { name := "fieldCase", fn := fun _ => fun
  | [d1, d2, d3] => { results := [.lit (.bool false)], args := [d1, d2, d3] }
  | _ => none }
def FieldCaseWrongFalsely : Prop := fieldCaseRow.holds Try.pinned (OpenSpec.ofChange fieldCaseWrong)

/- THE SECOND FORM. 'bulk': how many values and letters a reading holds, each counted each time it is reached (what is shared counts as often as it is met; a slice's spare places count too). A statement '..UptoSaid' is the law's where the arguments, and the package variables that the reading takes, are together of bulk at most 1048576: NARROWER than '..Said'. Prove '..Said' where nothing that the law and all that it calls make is longer than what came in: it says more and counts as full. Else prove '..UptoSaid'. A law counts once. -/
mutual
def uptoBulk {H : Type} : DataW H → Nat
  | .lit (.string bytes) => bytes.length + 1
  | .lit _ => 1
  | .nil => 1
  | .ptr d => uptoBulk d + 1
  | .slice elems spare => uptoBulkAll elems + uptoBulkAll spare + 1
  | .agg parts => uptoBulkAll parts + 1
  | .iface _ d => uptoBulk d + 1
  | .map entries => uptoBulkEntries entries + 1
  | .held _ => 1
def uptoBulkAll {H : Type} : List (DataW H) → Nat
  | [] => 0
  | d :: r => uptoBulk d + uptoBulkAll r
def uptoBulkEntries {H : Type} : List (Lit × DataW H) → Nat
  | [] => 0
  | x :: r => uptoBulkEntry x + uptoBulkEntries r
def uptoBulkEntry {H : Type} : Lit × DataW H → Nat
  | (.string bytes, d) => bytes.length + uptoBulk d + 1
  | (_, d) => uptoBulk d + 1
 end
def uptoSmall : (H : Type) → List (DataW H) → Bool := fun _ ds => decide (uptoBulkAll ds ≤ 1048576)
def OpenSpec.upto (s : _root_.Go.ChangeSpec) : _root_.Go.OpenSpec := { _root_.Go.OpenSpec.ofChange s with cond := some uptoSmall }

/-- 'isthmuslaw3.FieldParts', WHERE WHAT IT READS IS OF BULK AT MOST 1048576: true; the input reads as it did. -/
def fieldPartsUptoRow : OpenClaim := { program := "ytmgkdkbmlfciaaa", sum := "1eadab1f50963c8d58620970ab90542bc72d4e8c196899d60789f3dee4e180e5", func := "isthmus/isthmuslaw3.FieldParts", spec := "fieldParts", inPlace := ["internal/bytealg.IndexByteString", "internal/bytealg.IndexString"], unfollowed := true, recurses := true, named := ["internal/bytealg.MaxLen"], apart := false, narrowed := true }
def FieldPartsUptoSaid : Prop := fieldPartsUptoRow.holds Try.pinned (OpenSpec.upto fieldPartsSpec)

/-- 'isthmuslaw3.FieldLists', WHERE WHAT IT READS IS OF BULK AT MOST 1048576: true; the input reads as it did. -/
def fieldListsUptoRow : OpenClaim := { program := "ytmgkdkbmlfciaaa", sum := "1eadab1f50963c8d58620970ab90542bc72d4e8c196899d60789f3dee4e180e5", func := "isthmus/isthmuslaw3.FieldLists", spec := "fieldLists", inPlace := ["internal/bytealg.IndexByteString", "internal/bytealg.IndexString"], unfollowed := true, recurses := true, named := ["internal/bytealg.MaxLen"], apart := false, narrowed := true }
def FieldListsUptoSaid : Prop := fieldListsUptoRow.holds Try.pinned (OpenSpec.upto fieldListsSpec)

/-- 'isthmuslaw3.FieldMore', WHERE WHAT IT READS IS OF BULK AT MOST 1048576: true; the input reads as it did. -/
def fieldMoreUptoRow : OpenClaim := { program := "ytmgkdkbmlfciaaa", sum := "1eadab1f50963c8d58620970ab90542bc72d4e8c196899d60789f3dee4e180e5", func := "isthmus/isthmuslaw3.FieldMore", spec := "fieldMore", inPlace := ["internal/bytealg.IndexByteString", "internal/bytealg.IndexString"], unfollowed := true, recurses := true, named := ["internal/bytealg.MaxLen"], apart := false, narrowed := true }
def FieldMoreUptoSaid : Prop := fieldMoreUptoRow.holds Try.pinned (OpenSpec.upto fieldMoreSpec)

/-- 'isthmuslaw3.FieldStatic', WHERE WHAT IT READS IS OF BULK AT MOST 1048576: true; the input reads as it did. -/
def fieldStaticUptoRow : OpenClaim := { program := "ytmgkdkbmlfciaaa", sum := "1eadab1f50963c8d58620970ab90542bc72d4e8c196899d60789f3dee4e180e5", func := "isthmus/isthmuslaw3.FieldStatic", spec := "fieldStatic", inPlace := ["internal/bytealg.IndexByteString", "internal/bytealg.IndexString"], unfollowed := true, recurses := true, named := ["internal/bytealg.MaxLen"], apart := false, narrowed := true }
def FieldStaticUptoSaid : Prop := fieldStaticUptoRow.holds Try.pinned (OpenSpec.upto fieldStaticSpec)

/-- 'isthmuslaw3.FieldAll', WHERE WHAT IT READS IS OF BULK AT MOST 1048576: true; the input reads as it did. -/
def fieldAllUptoRow : OpenClaim := { program := "ytmgkdkbmlfciaaa", sum := "1eadab1f50963c8d58620970ab90542bc72d4e8c196899d60789f3dee4e180e5", func := "isthmus/isthmuslaw3.FieldAll", spec := "fieldAll", inPlace := ["internal/bytealg.IndexByteString", "internal/bytealg.IndexString"], unfollowed := true, recurses := true, named := ["internal/bytealg.MaxLen"], apart := false, narrowed := true }
def FieldAllUptoSaid : Prop := fieldAllUptoRow.holds Try.pinned (OpenSpec.upto fieldAllSpec)

/-- 'isthmuslaw3.FieldTurn', WHERE WHAT IT READS IS OF BULK AT MOST 1048576: true; the input reads as it did. -/
def fieldTurnUptoRow : OpenClaim := { program := "ytmgkdkbmlfciaaa", sum := "1eadab1f50963c8d58620970ab90542bc72d4e8c196899d60789f3dee4e180e5", func := "isthmus/isthmuslaw3.FieldTurn", spec := "fieldTurn", inPlace := ["internal/bytealg.IndexByteString", "internal/bytealg.IndexString"], unfollowed := true, recurses := true, named := ["internal/bytealg.MaxLen"], apart := false, narrowed := true }
def FieldTurnUptoSaid : Prop := fieldTurnUptoRow.holds Try.pinned (OpenSpec.upto fieldTurnSpec)

/-- 'isthmuslaw3.FieldCase', WHERE WHAT IT READS IS OF BULK AT MOST 1048576: true; the input reads as it did. -/
def fieldCaseUptoRow : OpenClaim := { program := "ytmgkdkbmlfciaaa", sum := "1eadab1f50963c8d58620970ab90542bc72d4e8c196899d60789f3dee4e180e5", func := "isthmus/isthmuslaw3.FieldCase", spec := "fieldCase", inPlace := ["internal/bytealg.IndexByteString", "internal/bytealg.IndexString"], unfollowed := true, recurses := true, named := ["internal/bytealg.MaxLen"], apart := false, narrowed := true }
def FieldCaseUptoSaid : Prop := fieldCaseUptoRow.holds Try.pinned (OpenSpec.upto fieldCaseSpec)

end Rows
end Go.Proofs.Ytmgkdkbmlfciaaa
