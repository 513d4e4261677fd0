/-
  No cell of these rows narrows 'for every input' (looked for: loops, veiled, ifaces, maps, wideKeys, modest, calm, conditions, laid).
  DERIVED. THE GIVEN ROWS OF THIS SEAT. 3 by the template 'for every input the law returns true; each argument reads behind the call as it read before'; 0 by the template 'total and deterministic' (their statements: YtfabolagjlhdpaaGreatTotals.lean).
  GIVEN WITH THE SEED: the statements are not yours to turn. If you find one false, say at which input.
  Laid BY PROGRAM, IN A SANDBOX (cutbox-rows.mjs): the forced cells as the released guide's own fill.sh prints them over the translation 189e9479459c766f… (all of the seat's roots in one cut). By AI agents, Wed Nov 11 2026. No macro, syntax, notation, axiom, sorry.
-/
import Derived.Test.YtfabolagjlhdpaaGreatChecked
import GoSem.Claim
import GoSem.ClaimJoined
import GoSem.ClaimMapViews
import Derived.JoinedTies
import Derived.KernelRfl
namespace Go.Proofs.YtfabolagjlhdpaaGreat
/- THE CELL 'sum', in the pinned program and in every row, IS THE sha256 OF THE DUMP (.gsa) THAT YtfabolagjlhdpaaGreatProg.lean LOADS. Nothing in Lean hashes anything: it is a label: what it is worth is what the hold of that sum in a sandbox is worth. -/
noncomputable def Tryz.pinned : Pinned := { name := "ytfabolagjlhdpaagreat", sum := "189e9479459c766facfbac352f3c4bccddf6879795505f6ea763183db7e54916", checked := Tryz.checked }
namespace Rows
def none {H : Type} : Left H := { results := [], args := [] }

/-- 'isthmuslaw19.EndIdle': WHATEVER THE INPUT: true; the input reads as it did. -/
def endIdleSpec : ChangeSpec := { name := "endIdle", fn := fun _ => fun
  | [d1, d2, d3] => { results := [.lit (.bool true)], args := [d1, d2, d3] }
  | _ => none }
def endIdleRow : OpenClaim := { program := "ytfabolagjlhdpaagreat", sum := "189e9479459c766facfbac352f3c4bccddf6879795505f6ea763183db7e54916", func := "isthmus/isthmuslaw19.EndIdle", spec := "endIdle", inPlace := ["internal/bytealg.IndexByteString", "internal/bytealg.IndexString", "internal/abi.NoEscape", "internal/bytealg.MakeNoZero"], unfollowed := true, recurses := true, named := ["internal/bytealg.MaxLen"], apart := false }
def EndIdleSaid : Prop := endIdleRow.holds Tryz.pinned (OpenSpec.ofChange endIdleSpec)

/-- ITS FALSE NEIGHBOUR: 'it returns false'. Refute it at one input. -/
def endIdleWrong : ChangeSpec := { name := "endIdle", fn := fun _ => fun
  | [d1, d2, d3] => { results := [.lit (.bool false)], args := [d1, d2, d3] }
  | _ => none }
def EndIdleWrongFalsely : Prop := endIdleRow.holds Tryz.pinned (OpenSpec.ofChange endIdleWrong)

/-- 'isthmuslaw19.EndTold': WHATEVER THE INPUT: true; the input reads as it did. -/
def endToldSpec : ChangeSpec := { name := "endTold", fn := fun _ => fun
  | [d1, d2] => { results := [.lit (.bool true)], args := [d1, d2] }
  | _ => none }
def endToldRow : OpenClaim := { program := "ytfabolagjlhdpaagreat", sum := "189e9479459c766facfbac352f3c4bccddf6879795505f6ea763183db7e54916", func := "isthmus/isthmuslaw19.EndTold", spec := "endTold", inPlace := ["internal/bytealg.IndexByteString", "internal/bytealg.IndexString", "internal/abi.NoEscape", "internal/bytealg.MakeNoZero"], unfollowed := true, recurses := true, named := ["internal/bytealg.MaxLen"], apart := false }
def EndToldSaid : Prop := endToldRow.holds Tryz.pinned (OpenSpec.ofChange endToldSpec)

/-- ITS FALSE NEIGHBOUR: 'it returns false'. Refute it at one input. -/
def endToldWrong : ChangeSpec := { name := "endTold", fn := fun _ => fun
  | [d1, d2] => { results := [.lit (.bool false)], args := [d1, d2] }
  | _ => none }
def EndToldWrongFalsely : Prop := endToldRow.holds Tryz.pinned (OpenSpec.ofChange endToldWrong)

/-- 'isthmuslaw19.EndKeep': WHATEVER THE INPUT: true; the input reads as it did. -/
def endKeepSpec : ChangeSpec := { name := "endKeep", fn := fun _ => fun
  | [d1, d2, d3, d4] => { results := [.lit (.bool true)], args := [d1, d2, d3, d4] }
  | _ => none }
def endKeepRow : OpenClaim := { program := "ytfabolagjlhdpaagreat", sum := "189e9479459c766facfbac352f3c4bccddf6879795505f6ea763183db7e54916", func := "isthmus/isthmuslaw19.EndKeep", spec := "endKeep", inPlace := ["internal/bytealg.IndexByteString", "internal/bytealg.IndexString", "internal/abi.NoEscape", "internal/bytealg.MakeNoZero"], unfollowed := true, recurses := true, named := ["internal/bytealg.MaxLen"], apart := false }
def EndKeepSaid : Prop := endKeepRow.holds Tryz.pinned (OpenSpec.ofChange endKeepSpec)

/-- ITS FALSE NEIGHBOUR: 'it returns false'. Refute it at one input. -/
def endKeepWrong : ChangeSpec := { name := "endKeep", fn := fun _ => fun
  | [d1, d2, d3, d4] => { results := [.lit (.bool false)], args := [d1, d2, d3, d4] }
  | _ => none }
def EndKeepWrongFalsely : Prop := endKeepRow.holds Tryz.pinned (OpenSpec.ofChange endKeepWrong)

/- THE SECOND FORM. 'bulk': how many values and letters a reading holds, each counted each time it is reached (what is shared counts as often as it is met; a slice's spare places count too). A statement '..UptoSaid' is the law's where the arguments, and the package variables that the reading takes, are together of bulk at most 1048576: NARROWER than '..Said'. Prove '..Said' where nothing that the law and all that it calls make is longer than what came in: it says more and counts as full. Else prove '..UptoSaid'. A law counts once. -/
mutual
def uptoBulk {H : Type} : DataW H → Nat
  | .lit (.string bytes) => bytes.length + 1
  | .lit _ => 1
  | .nil => 1
  | .ptr d => uptoBulk d + 1
  | .slice elems spare => uptoBulkAll elems + uptoBulkAll spare + 1
  | .agg parts => uptoBulkAll parts + 1
  | .iface _ d => uptoBulk d + 1
  | .map entries => uptoBulkEntries entries + 1
  | .held _ => 1
def uptoBulkAll {H : Type} : List (DataW H) → Nat
  | [] => 0
  | d :: r => uptoBulk d + uptoBulkAll r
def uptoBulkEntries {H : Type} : List (Lit × DataW H) → Nat
  | [] => 0
  | x :: r => uptoBulkEntry x + uptoBulkEntries r
def uptoBulkEntry {H : Type} : Lit × DataW H → Nat
  | (.string bytes, d) => bytes.length + uptoBulk d + 1
  | (_, d) => uptoBulk d + 1
 end
def uptoSmall : (H : Type) → List (DataW H) → Bool := fun _ ds => decide (uptoBulkAll ds ≤ 1048576)
def OpenSpec.upto (s : _root_.Go.ChangeSpec) : _root_.Go.OpenSpec := { _root_.Go.OpenSpec.ofChange s with cond := some uptoSmall }

/-- 'isthmuslaw19.EndIdle', WHERE WHAT IT READS IS OF BULK AT MOST 1048576: true; the input reads as it did. -/
def endIdleUptoRow : OpenClaim := { program := "ytfabolagjlhdpaagreat", sum := "189e9479459c766facfbac352f3c4bccddf6879795505f6ea763183db7e54916", func := "isthmus/isthmuslaw19.EndIdle", spec := "endIdle", inPlace := ["internal/bytealg.IndexByteString", "internal/bytealg.IndexString", "internal/abi.NoEscape", "internal/bytealg.MakeNoZero"], unfollowed := true, recurses := true, named := ["internal/bytealg.MaxLen"], apart := false, narrowed := true }
def EndIdleUptoSaid : Prop := endIdleUptoRow.holds Tryz.pinned (OpenSpec.upto endIdleSpec)

/-- 'isthmuslaw19.EndTold', WHERE WHAT IT READS IS OF BULK AT MOST 1048576: true; the input reads as it did. -/
def endToldUptoRow : OpenClaim := { program := "ytfabolagjlhdpaagreat", sum := "189e9479459c766facfbac352f3c4bccddf6879795505f6ea763183db7e54916", func := "isthmus/isthmuslaw19.EndTold", spec := "endTold", inPlace := ["internal/bytealg.IndexByteString", "internal/bytealg.IndexString", "internal/abi.NoEscape", "internal/bytealg.MakeNoZero"], unfollowed := true, recurses := true, named := ["internal/bytealg.MaxLen"], apart := false, narrowed := true }
def EndToldUptoSaid : Prop := endToldUptoRow.holds Tryz.pinned (OpenSpec.upto endToldSpec)

/-- 'isthmuslaw19.EndKeep', WHERE WHAT IT READS IS OF BULK AT MOST 1048576: true; the input reads as it did. -/
def endKeepUptoRow : OpenClaim := { program := "ytfabolagjlhdpaagreat", sum := "189e9479459c766facfbac352f3c4bccddf6879795505f6ea763183db7e54916", func := "isthmus/isthmuslaw19.EndKeep", spec := "endKeep", inPlace := ["internal/bytealg.IndexByteString", "internal/bytealg.IndexString", "internal/abi.NoEscape", "internal/bytealg.MakeNoZero"], unfollowed := true, recurses := true, named := ["internal/bytealg.MaxLen"], apart := false, narrowed := true }
def EndKeepUptoSaid : Prop := endKeepUptoRow.holds Tryz.pinned (OpenSpec.upto endKeepSpec)

end Rows
end Go.Proofs.YtfabolagjlhdpaaGreat
