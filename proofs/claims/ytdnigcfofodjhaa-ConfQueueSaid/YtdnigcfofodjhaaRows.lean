/-
  No cell of these rows narrows 'for every input' (looked for: loops, veiled, ifaces, maps, wideKeys, modest, calm, conditions, laid).
  DERIVED. THE GIVEN ROWS OF THIS SEAT. 4 by the template 'for every input the law returns true; each argument reads behind the call as it read before'; 0 by the template 'total and deterministic' (their statements: YtdnigcfofodjhaaTotals.lean).
  GIVEN WITH THE SEED: the statements are not yours to turn. If you find one false, say at which input.
  Laid BY PROGRAM, IN A SANDBOX (cutbox-rows.mjs): the forced cells as the released guide's own fill.sh prints them over the translation fc6747008c571c6e… (all of the seat's roots in one cut). By AI agents, Wed Nov 11 2026. No macro, syntax, notation, axiom, sorry.
-/
import Derived.Test.YtdnigcfofodjhaaChecked
import GoSem.Claim
import GoSem.ClaimJoined
import GoSem.ClaimMapViews
import Derived.JoinedTies
import Derived.KernelRfl
namespace Go.Proofs.Ytdnigcfofodjhaa
/- THE CELL 'sum', in the pinned program and in every row, IS THE sha256 OF THE DUMP (.gsa) THAT YtdnigcfofodjhaaProg.lean LOADS. Nothing in Lean hashes anything: it is a label: what it is worth is what the hold of that sum in a sandbox is worth. -/
noncomputable def Try.pinned : Pinned := { name := "ytdnigcfofodjhaa", sum := "fc6747008c571c6ec14644ffedccbd5899e770fcbed529ec2a335ac4fa7e072a", checked := Try.checked }
namespace Rows
def none {H : Type} : Left H := { results := [], args := [] }

/-- 'isthmuslaw12.ConfMay': WHATEVER THE INPUT: true; the input reads as it did. -/
def confMaySpec : ChangeSpec := { name := "confMay", fn := fun _ => fun
  | [d1, d2] => { results := [.lit (.bool true)], args := [d1, d2] }
  | _ => none }
def confMayRow : OpenClaim := { program := "ytdnigcfofodjhaa", sum := "fc6747008c571c6ec14644ffedccbd5899e770fcbed529ec2a335ac4fa7e072a", func := "isthmus/isthmuslaw12.ConfMay", spec := "confMay", apart := false }
def ConfMaySaid : Prop := confMayRow.holds Try.pinned (OpenSpec.ofChange confMaySpec)

/-- ITS FALSE NEIGHBOUR: 'it returns false'. Refute it at one input. -/
def confMayWrong : ChangeSpec := { name := "confMay", fn := fun _ => fun
  | [d1, d2] => { results := [.lit (.bool false)], args := [d1, d2] }
  | _ => none }
def ConfMayWrongFalsely : Prop := confMayRow.holds Try.pinned (OpenSpec.ofChange confMayWrong)

/-- 'isthmuslaw12.ConfBack': WHATEVER THE INPUT: true; the input reads as it did. -/
def confBackSpec : ChangeSpec := { name := "confBack", fn := fun _ => fun
  | [d1, d2] => { results := [.lit (.bool true)], args := [d1, d2] }
  | _ => none }
def confBackRow : OpenClaim := { program := "ytdnigcfofodjhaa", sum := "fc6747008c571c6ec14644ffedccbd5899e770fcbed529ec2a335ac4fa7e072a", func := "isthmus/isthmuslaw12.ConfBack", spec := "confBack", apart := false }
def ConfBackSaid : Prop := confBackRow.holds Try.pinned (OpenSpec.ofChange confBackSpec)

/-- ITS FALSE NEIGHBOUR: 'it returns false'. Refute it at one input. -/
def confBackWrong : ChangeSpec := { name := "confBack", fn := fun _ => fun
  | [d1, d2] => { results := [.lit (.bool false)], args := [d1, d2] }
  | _ => none }
def ConfBackWrongFalsely : Prop := confBackRow.holds Try.pinned (OpenSpec.ofChange confBackWrong)

/-- 'isthmuslaw12.ConfQueue': WHATEVER THE INPUT: true; the input reads as it did. -/
def confQueueSpec : ChangeSpec := { name := "confQueue", fn := fun _ => fun
  | [d1, d2] => { results := [.lit (.bool true)], args := [d1, d2] }
  | _ => none }
def confQueueRow : OpenClaim := { program := "ytdnigcfofodjhaa", sum := "fc6747008c571c6ec14644ffedccbd5899e770fcbed529ec2a335ac4fa7e072a", func := "isthmus/isthmuslaw12.ConfQueue", spec := "confQueue", apart := false }
def ConfQueueSaid : Prop := confQueueRow.holds Try.pinned (OpenSpec.ofChange confQueueSpec)

/-- ITS FALSE NEIGHBOUR: 'it returns false'. Refute it at one input. -/
def confQueueWrong : ChangeSpec := { name := "confQueue", fn := fun _ => fun
  | [d1, d2] => { results := [.lit (.bool false)], args := [d1, d2] }
  | _ => none }
def ConfQueueWrongFalsely : Prop := confQueueRow.holds Try.pinned (OpenSpec.ofChange confQueueWrong)

/-- 'isthmuslaw12.ConfNone': WHATEVER THE INPUT: true; the input reads as it did. -/
def confNoneSpec : ChangeSpec := { name := "confNone", fn := fun _ => fun
  | [] => { results := [.lit (.bool true)], args := [] }
  | _ => none }
def confNoneRow : OpenClaim := { program := "ytdnigcfofodjhaa", sum := "fc6747008c571c6ec14644ffedccbd5899e770fcbed529ec2a335ac4fa7e072a", func := "isthmus/isthmuslaw12.ConfNone", spec := "confNone", apart := false }
def ConfNoneSaid : Prop := confNoneRow.holds Try.pinned (OpenSpec.ofChange confNoneSpec)

/-- ITS FALSE NEIGHBOUR: 'it returns false'. Refute it at one input. -/
def confNoneWrong : ChangeSpec := { name := "confNone", fn := fun _ => fun
  | [] => { results := [.lit (.bool false)], args := [] }
  | _ => none }
def ConfNoneWrongFalsely : Prop := confNoneRow.holds Try.pinned (OpenSpec.ofChange confNoneWrong)

/- THE SECOND FORM. 'bulk': how many values and letters a reading holds, each counted each time it is reached (what is shared counts as often as it is met; a slice's spare places count too). A statement '..UptoSaid' is the law's where the arguments, and the package variables that the reading takes, are together of bulk at most 1048576: NARROWER than '..Said'. Prove '..Said' where nothing that the law and all that it calls make is longer than what came in: it says more and counts as full. Else prove '..UptoSaid'. A law counts once. -/
mutual
def uptoBulk {H : Type} : DataW H → Nat
  | .lit (.string bytes) => bytes.length + 1
  | .lit _ => 1
  | .nil => 1
  | .ptr d => uptoBulk d + 1
  | .slice elems spare => uptoBulkAll elems + uptoBulkAll spare + 1
  | .agg parts => uptoBulkAll parts + 1
  | .iface _ d => uptoBulk d + 1
  | .map entries => uptoBulkEntries entries + 1
  | .held _ => 1
def uptoBulkAll {H : Type} : List (DataW H) → Nat
  | [] => 0
  | d :: r => uptoBulk d + uptoBulkAll r
def uptoBulkEntries {H : Type} : List (Lit × DataW H) → Nat
  | [] => 0
  | x :: r => uptoBulkEntry x + uptoBulkEntries r
def uptoBulkEntry {H : Type} : Lit × DataW H → Nat
  | (.string bytes, d) => bytes.length + uptoBulk d + 1
  | (_, d) => uptoBulk d + 1
 end
def uptoSmall : (H : Type) → List (DataW H) → Bool := fun _ ds => decide (uptoBulkAll ds ≤ 1048576)
def OpenSpec.upto (s : _root_.Go.ChangeSpec) : _root_.Go.OpenSpec := { _root_.Go.OpenSpec.ofChange s with cond := some uptoSmall }

/-- 'isthmuslaw12.ConfMay', WHERE WHAT IT READS IS OF BULK AT MOST 1048576: true; the input reads as it did. -/
def confMayUptoRow : OpenClaim := { program := "ytdnigcfofodjhaa", sum := "fc6747008c571c6ec14644ffedccbd5899e770fcbed529ec2a335ac4fa7e072a", func := "isthmus/isthmuslaw12.ConfMay", spec := "confMay", apart := false, narrowed := true }
def ConfMayUptoSaid : Prop := confMayUptoRow.holds Try.pinned (OpenSpec.upto confMaySpec)

/-- 'isthmuslaw12.ConfBack', WHERE WHAT IT READS IS OF BULK AT MOST 1048576: true; the input reads as it did. -/
def confBackUptoRow : OpenClaim := { program := "ytdnigcfofodjhaa", sum := "fc6747008c571c6ec14644ffedccbd5899e770fcbed529ec2a335ac4fa7e072a", func := "isthmus/isthmuslaw12.ConfBack", spec := "confBack", apart := false, narrowed := true }
def ConfBackUptoSaid : Prop := confBackUptoRow.holds Try.pinned (OpenSpec.upto confBackSpec)

/-- 'isthmuslaw12.ConfQueue', WHERE WHAT IT READS IS OF BULK AT MOST 1048576: true; the input reads as it did. -/
def confQueueUptoRow : OpenClaim := { program := "ytdnigcfofodjhaa", sum := "fc6747008c571c6ec14644ffedccbd5899e770fcbed529ec2a335ac4fa7e072a", func := "isthmus/isthmuslaw12.ConfQueue", spec := "confQueue", apart := false, narrowed := true }
def ConfQueueUptoSaid : Prop := confQueueUptoRow.holds Try.pinned (OpenSpec.upto confQueueSpec)

/-- 'isthmuslaw12.ConfNone', WHERE WHAT IT READS IS OF BULK AT MOST 1048576: true; the input reads as it did. -/
def confNoneUptoRow : OpenClaim := { program := "ytdnigcfofodjhaa", sum := "fc6747008c571c6ec14644ffedccbd5899e770fcbed529ec2a335ac4fa7e072a", func := "isthmus/isthmuslaw12.ConfNone", spec := "confNone", apart := false, narrowed := true }
def ConfNoneUptoSaid : Prop := confNoneUptoRow.holds Try.pinned (OpenSpec.upto confNoneSpec)

end Rows
end Go.Proofs.Ytdnigcfofodjhaa
