/-
  No cell of these rows narrows 'for every input' (looked for: loops, veiled, ifaces, maps, wideKeys, modest, calm, conditions, laid).
  DERIVED. THE GIVEN ROWS OF THIS SEAT. 7 by the template 'for every input the law returns true; each argument reads behind the call as it read before'; 0 by the template 'total and deterministic' (their statements: YtpjoadjbclffpaaGreatTotals.lean).
  GIVEN WITH THE SEED: the statements are not yours to turn. If you find one false, say at which input.
  Laid BY PROGRAM, IN A SANDBOX (cutbox-rows.mjs): the forced cells as the released guide's own fill.sh prints them over the translation 125c2038935e5212… (all of the seat's roots in one cut). By AI agents, Wed Nov 11 2026. No macro, syntax, notation, axiom, sorry.
-/
import Derived.Test.YtpjoadjbclffpaaGreatChecked
import GoSem.Claim
import GoSem.ClaimJoined
import GoSem.ClaimMapViews
import Derived.JoinedTies
import Derived.KernelRfl
namespace Go.Proofs.YtpjoadjbclffpaaGreat
/- THE CELL 'sum', in the pinned program and in every row, IS THE sha256 OF THE DUMP (.gsa) THAT YtpjoadjbclffpaaGreatProg.lean LOADS. Nothing in Lean hashes anything: it is a label: what it is worth is what the hold of that sum in a sandbox is worth. -/
noncomputable def Tryz.pinned : Pinned := { name := "ytpjoadjbclffpaagreat", sum := "125c2038935e5212c18ae42a6274253cc003ad0c62b4f4e6d4fef47232c671a6", checked := Tryz.checked }
namespace Rows
def none {H : Type} : Left H := { results := [], args := [] }

/-- 'isthmuslaw15.ConnShut': WHATEVER THE INPUT: true; the input reads as it did. -/
def connShutSpec : ChangeSpec := { name := "connShut", fn := fun _ => fun
  | [] => { results := [.lit (.bool true)], args := [] }
  | _ => none }
def connShutRow : OpenClaim := { program := "ytpjoadjbclffpaagreat", sum := "125c2038935e5212c18ae42a6274253cc003ad0c62b4f4e6d4fef47232c671a6", func := "isthmus/isthmuslaw15.ConnShut", spec := "connShut", inPlace := ["internal/bytealg.IndexByteString", "internal/bytealg.IndexString"], unfollowed := true, recurses := true, named := ["internal/bytealg.MaxLen"], apart := false }
def ConnShutSaid : Prop := connShutRow.holds Tryz.pinned (OpenSpec.ofChange connShutSpec)

/-- ITS FALSE NEIGHBOUR: 'it returns false'. Refute it at one input. -/
def connShutWrong : ChangeSpec := { name := "connShut", fn := fun _ => fun
  | [] => { results := [.lit (.bool false)], args := [] }
  | _ => none }
def ConnShutWrongFalsely : Prop := connShutRow.holds Tryz.pinned (OpenSpec.ofChange connShutWrong)

/-- 'isthmuslaw15.ConnPing': WHATEVER THE INPUT: true; the input reads as it did. -/
def connPingSpec : ChangeSpec := { name := "connPing", fn := fun _ => fun
  | [d1, d2] => { results := [.lit (.bool true)], args := [d1, d2] }
  | _ => none }
def connPingRow : OpenClaim := { program := "ytpjoadjbclffpaagreat", sum := "125c2038935e5212c18ae42a6274253cc003ad0c62b4f4e6d4fef47232c671a6", func := "isthmus/isthmuslaw15.ConnPing", spec := "connPing", inPlace := ["internal/bytealg.IndexByteString", "internal/bytealg.IndexString"], unfollowed := true, recurses := true, named := ["internal/bytealg.MaxLen"], apart := false }
def ConnPingSaid : Prop := connPingRow.holds Tryz.pinned (OpenSpec.ofChange connPingSpec)

/-- ITS FALSE NEIGHBOUR: 'it returns false'. Refute it at one input. -/
def connPingWrong : ChangeSpec := { name := "connPing", fn := fun _ => fun
  | [d1, d2] => { results := [.lit (.bool false)], args := [d1, d2] }
  | _ => none }
def ConnPingWrongFalsely : Prop := connPingRow.holds Tryz.pinned (OpenSpec.ofChange connPingWrong)

/-- 'isthmuslaw15.ConnFirst': WHATEVER THE INPUT: true; the input reads as it did. -/
def connFirstSpec : ChangeSpec := { name := "connFirst", fn := fun _ => fun
  | [] => { results := [.lit (.bool true)], args := [] }
  | _ => none }
def connFirstRow : OpenClaim := { program := "ytpjoadjbclffpaagreat", sum := "125c2038935e5212c18ae42a6274253cc003ad0c62b4f4e6d4fef47232c671a6", func := "isthmus/isthmuslaw15.ConnFirst", spec := "connFirst", inPlace := ["internal/bytealg.IndexByteString", "internal/bytealg.IndexString"], unfollowed := true, recurses := true, named := ["internal/bytealg.MaxLen"], apart := false }
def ConnFirstSaid : Prop := connFirstRow.holds Tryz.pinned (OpenSpec.ofChange connFirstSpec)

/-- ITS FALSE NEIGHBOUR: 'it returns false'. Refute it at one input. -/
def connFirstWrong : ChangeSpec := { name := "connFirst", fn := fun _ => fun
  | [] => { results := [.lit (.bool false)], args := [] }
  | _ => none }
def ConnFirstWrongFalsely : Prop := connFirstRow.holds Tryz.pinned (OpenSpec.ofChange connFirstWrong)

/-- 'isthmuslaw15.ConnLimit': WHATEVER THE INPUT: true; the input reads as it did. -/
def connLimitSpec : ChangeSpec := { name := "connLimit", fn := fun _ => fun
  | [d1, d2] => { results := [.lit (.bool true)], args := [d1, d2] }
  | _ => none }
def connLimitRow : OpenClaim := { program := "ytpjoadjbclffpaagreat", sum := "125c2038935e5212c18ae42a6274253cc003ad0c62b4f4e6d4fef47232c671a6", func := "isthmus/isthmuslaw15.ConnLimit", spec := "connLimit", inPlace := ["internal/bytealg.IndexByteString", "internal/bytealg.IndexString"], unfollowed := true, recurses := true, named := ["internal/bytealg.MaxLen"], apart := false }
def ConnLimitSaid : Prop := connLimitRow.holds Tryz.pinned (OpenSpec.ofChange connLimitSpec)

/-- ITS FALSE NEIGHBOUR: 'it returns false'. Refute it at one input. -/
def connLimitWrong : ChangeSpec := { name := "connLimit", fn := fun _ => fun
  | [d1, d2] => { results := [.lit (.bool false)], args := [d1, d2] }
  | _ => none }
def ConnLimitWrongFalsely : Prop := connLimitRow.holds Tryz.pinned (OpenSpec.ofChange connLimitWrong)

/-- 'isthmuslaw15.ConnWindow': WHATEVER THE INPUT: true; the input reads as it did. -/
def connWindowSpec : ChangeSpec := { name := "connWindow", fn := fun _ => fun
  | [d1, d2] => { results := [.lit (.bool true)], args := [d1, d2] }
  | _ => none }
def connWindowRow : OpenClaim := { program := "ytpjoadjbclffpaagreat", sum := "125c2038935e5212c18ae42a6274253cc003ad0c62b4f4e6d4fef47232c671a6", func := "isthmus/isthmuslaw15.ConnWindow", spec := "connWindow", inPlace := ["internal/bytealg.IndexByteString", "internal/bytealg.IndexString"], unfollowed := true, recurses := true, named := ["internal/bytealg.MaxLen"], apart := false }
def ConnWindowSaid : Prop := connWindowRow.holds Tryz.pinned (OpenSpec.ofChange connWindowSpec)

/-- ITS FALSE NEIGHBOUR: 'it returns false'. Refute it at one input. -/
def connWindowWrong : ChangeSpec := { name := "connWindow", fn := fun _ => fun
  | [d1, d2] => { results := [.lit (.bool false)], args := [d1, d2] }
  | _ => none }
def ConnWindowWrongFalsely : Prop := connWindowRow.holds Tryz.pinned (OpenSpec.ofChange connWindowWrong)

/-- 'isthmuslaw15.ConnOver': WHATEVER THE INPUT: true; the input reads as it did. -/
def connOverSpec : ChangeSpec := { name := "connOver", fn := fun _ => fun
  | [d1, d2, d3] => { results := [.lit (.bool true)], args := [d1, d2, d3] }
  | _ => none }
def connOverRow : OpenClaim := { program := "ytpjoadjbclffpaagreat", sum := "125c2038935e5212c18ae42a6274253cc003ad0c62b4f4e6d4fef47232c671a6", func := "isthmus/isthmuslaw15.ConnOver", spec := "connOver", inPlace := ["internal/bytealg.IndexByteString", "internal/bytealg.IndexString"], unfollowed := true, recurses := true, named := ["internal/bytealg.MaxLen"], apart := false }
def ConnOverSaid : Prop := connOverRow.holds Tryz.pinned (OpenSpec.ofChange connOverSpec)

/-- ITS FALSE NEIGHBOUR: 'it returns false'. Refute it at one input. -/
def connOverWrong : ChangeSpec := { name := "connOver", fn := fun _ => fun
  | [d1, d2, d3] => { results := [.lit (.bool false)], args := [d1, d2, d3] }
  | _ => none }
def ConnOverWrongFalsely : Prop := connOverRow.holds Tryz.pinned (OpenSpec.ofChange connOverWrong)

/-- 'isthmuslaw15.ConnNone': WHATEVER THE INPUT: true; the input reads as it did. -/
def connNoneSpec : ChangeSpec := { name := "connNone", fn := fun _ => fun
  | [] => { results := [.lit (.bool true)], args := [] }
  | _ => none }
def connNoneRow : OpenClaim := { program := "ytpjoadjbclffpaagreat", sum := "125c2038935e5212c18ae42a6274253cc003ad0c62b4f4e6d4fef47232c671a6", func := "isthmus/isthmuslaw15.ConnNone", spec := "connNone", inPlace := ["internal/bytealg.IndexByteString", "internal/bytealg.IndexString"], unfollowed := true, recurses := true, named := ["internal/bytealg.MaxLen"], apart := false }
def ConnNoneSaid : Prop := connNoneRow.holds Tryz.pinned (OpenSpec.ofChange connNoneSpec)

/-- ITS FALSE NEIGHBOUR: 'it returns false'. Refute it at one input. -/
def connNoneWrong : ChangeSpec := { name := "connNone", fn := fun _ => fun
  | [] => { results := [.lit (.bool false)], args := [] }
  | _ => none }
def ConnNoneWrongFalsely : Prop := connNoneRow.holds Tryz.pinned (OpenSpec.ofChange connNoneWrong)

/- THE SECOND FORM. 'bulk': how many values and letters a reading holds, each counted each time it is reached (what is shared counts as often as it is met; a slice's spare places count too). A statement '..UptoSaid' is the law's where the arguments, and the package variables that the reading takes, are together of bulk at most 1048576: NARROWER than '..Said'. Prove '..Said' where nothing that the law and all that it calls make is longer than what came in: it says more and counts as full. Else prove '..UptoSaid'. A law counts once. -/
mutual
def uptoBulk {H : Type} : DataW H → Nat
  | .lit (.string bytes) => bytes.length + 1
  | .lit _ => 1
  | .nil => 1
  | .ptr d => uptoBulk d + 1
  | .slice elems spare => uptoBulkAll elems + uptoBulkAll spare + 1
  | .agg parts => uptoBulkAll parts + 1
  | .iface _ d => uptoBulk d + 1
  | .map entries => uptoBulkEntries entries + 1
  | .held _ => 1
def uptoBulkAll {H : Type} : List (DataW H) → Nat
  | [] => 0
  | d :: r => uptoBulk d + uptoBulkAll r
def uptoBulkEntries {H : Type} : List (Lit × DataW H) → Nat
  | [] => 0
  | x :: r => uptoBulkEntry x + uptoBulkEntries r
def uptoBulkEntry {H : Type} : Lit × DataW H → Nat
  | (.string bytes, d) => bytes.length + uptoBulk d + 1
  | (_, d) => uptoBulk d + 1
 end
def uptoSmall : (H : Type) → List (DataW H) → Bool := fun _ ds => decide (uptoBulkAll ds ≤ 1048576)
def OpenSpec.upto (s : _root_.Go.ChangeSpec) : _root_.Go.OpenSpec := { _root_.Go.OpenSpec.ofChange s with cond := some uptoSmall }

/-- 'isthmuslaw15.ConnShut', WHERE WHAT IT READS IS OF BULK AT MOST 1048576: true; the input reads as it did. -/
def connShutUptoRow : OpenClaim := { program := "ytpjoadjbclffpaagreat", sum := "125c2038935e5212c18ae42a6274253cc003ad0c62b4f4e6d4fef47232c671a6", func := "isthmus/isthmuslaw15.ConnShut", spec := "connShut", inPlace := ["internal/bytealg.IndexByteString", "internal/bytealg.IndexString"], unfollowed := true, recurses := true, named := ["internal/bytealg.MaxLen"], apart := false, narrowed := true }
def ConnShutUptoSaid : Prop := connShutUptoRow.holds Tryz.pinned (OpenSpec.upto connShutSpec)

/-- 'isthmuslaw15.ConnPing', WHERE WHAT IT READS IS OF BULK AT MOST 1048576: true; the input reads as it did. -/
def connPingUptoRow : OpenClaim := { program := "ytpjoadjbclffpaagreat", sum := "125c2038935e5212c18ae42a6274253cc003ad0c62b4f4e6d4fef47232c671a6", func := "isthmus/isthmuslaw15.ConnPing", spec := "connPing", inPlace := ["internal/bytealg.IndexByteString", "internal/bytealg.IndexString"], unfollowed := true, recurses := true, named := ["internal/bytealg.MaxLen"], apart := false, narrowed := true }
def ConnPingUptoSaid : Prop := connPingUptoRow.holds Tryz.pinned (OpenSpec.upto connPingSpec)

/-- 'isthmuslaw15.ConnFirst', WHERE WHAT IT READS IS OF BULK AT MOST 1048576: true; the input reads as it did. -/
def connFirstUptoRow : OpenClaim := { program := "ytpjoadjbclffpaagreat", sum := "125c2038935e5212c18ae42a6274253cc003ad0c62b4f4e6d4fef47232c671a6", func := "isthmus/isthmuslaw15.ConnFirst", spec := "connFirst", inPlace := ["internal/bytealg.IndexByteString", "internal/bytealg.IndexString"], unfollowed := true, recurses := true, named := ["internal/bytealg.MaxLen"], apart := false, narrowed := true }
def ConnFirstUptoSaid : Prop := connFirstUptoRow.holds Tryz.pinned (OpenSpec.upto connFirstSpec)

/-- 'isthmuslaw15.ConnLimit', WHERE WHAT IT READS IS OF BULK AT MOST 1048576: true; the input reads as it did. -/
def connLimitUptoRow : OpenClaim := { program := "ytpjoadjbclffpaagreat", sum := "125c2038935e5212c18ae42a6274253cc003ad0c62b4f4e6d4fef47232c671a6", func := "isthmus/isthmuslaw15.ConnLimit", spec := "connLimit", inPlace := ["internal/bytealg.IndexByteString", "internal/bytealg.IndexString"], unfollowed := true, recurses := true, named := ["internal/bytealg.MaxLen"], apart := false, narrowed := true }
def ConnLimitUptoSaid : Prop := connLimitUptoRow.holds Tryz.pinned (OpenSpec.upto connLimitSpec)

/-- 'isthmuslaw15.ConnWindow', WHERE WHAT IT READS IS OF BULK AT MOST 1048576: true; the input reads as it did. -/
def connWindowUptoRow : OpenClaim := { program := "ytpjoadjbclffpaagreat", sum := "125c2038935e5212c18ae42a6274253cc003ad0c62b4f4e6d4fef47232c671a6", func := "isthmus/isthmuslaw15.ConnWindow", spec := "connWindow", inPlace := ["internal/bytealg.IndexByteString", "internal/bytealg.IndexString"], unfollowed := true, recurses := true, named := ["internal/bytealg.MaxLen"], apart := false, narrowed := true }
def ConnWindowUptoSaid : Prop := connWindowUptoRow.holds Tryz.pinned (OpenSpec.upto connWindowSpec)

/-- 'isthmuslaw15.ConnOver', WHERE WHAT IT READS IS OF BULK AT MOST 1048576: true; the input reads as it did. -/
def connOverUptoRow : OpenClaim := { program := "ytpjoadjbclffpaagreat", sum := "125c2038935e5212c18ae42a6274253cc003ad0c62b4f4e6d4fef47232c671a6", func := "isthmus/isthmuslaw15.ConnOver", spec := "connOver", inPlace := ["internal/bytealg.IndexByteString", "internal/bytealg.IndexString"], unfollowed := true, recurses := true, named := ["internal/bytealg.MaxLen"], apart := false, narrowed := true }
def ConnOverUptoSaid : Prop := connOverUptoRow.holds Tryz.pinned (OpenSpec.upto connOverSpec)

/-- 'isthmuslaw15.ConnNone', WHERE WHAT IT READS IS OF BULK AT MOST 1048576: true; the input reads as it did. -/
def connNoneUptoRow : OpenClaim := { program := "ytpjoadjbclffpaagreat", sum := "125c2038935e5212c18ae42a6274253cc003ad0c62b4f4e6d4fef47232c671a6", func := "isthmus/isthmuslaw15.ConnNone", spec := "connNone", inPlace := ["internal/bytealg.IndexByteString", "internal/bytealg.IndexString"], unfollowed := true, recurses := true, named := ["internal/bytealg.MaxLen"], apart := false, narrowed := true }
def ConnNoneUptoSaid : Prop := connNoneUptoRow.holds Tryz.pinned (OpenSpec.upto connNoneSpec)

end Rows
end Go.Proofs.YtpjoadjbclffpaaGreat
