/- AmComp: from the model's code to the abstract machine's. -/
import Derived.Test.YtibmhhdgcbaofaaDoorAmCode
import Derived.CallsIn
namespace Am
set_option linter.unusedVariables false
set_option linter.unusedSimpArgs false
open Go (IntKind BinOp UnOp Value Program TypeId TypeDesc Operand Oper Code Tmp)

def ofFlat : Value → Option V
  | .bool b => some (.b b)
  | .int k n => some (.i k n)
  | .string s => some (.s s.data.toList)
  | .pointer none => some (.p none)
  | .slice none 0 0 => some (.sl none 0 0 true)
  | .map none => some (.m none)
  | .nilFunc => some .nf
  | .nilIface => some .nifc
  | _ => none
def ofFlats : List Value → Option (List V)
  | [] => some []
  | v :: vs => (ofFlat v).bind fun x => (ofFlats vs).bind fun xs => some (x :: xs)
def ofValue : Value → Option V
  | .agg cs => (ofFlats cs.toList).map .agg
  | v => ofFlat v

def opd : Operand → Option AOpd
  | .tmp t => some (.t t)
  | .const v => (ofValue v).map .c
  | .func f => some (.fn f)
  | .global g => if g < 4096 then some (.c (.p (some (g, 0, 0)))) else none
def opds : List Operand → Option (List AOpd)
  | [] => some []
  | x :: xs => (opd x).bind fun a => (opds xs).bind fun as => some (a :: as)
def opdO : Option Operand → Option (Option AOpd)
  | none => some none
  | some x => (opd x).map some

def szOf (P : Program) (t : TypeId) : Option Nat := (P.info? t).map (·.size)
def bytesOfT (P : Program) (t : TypeId) : Option Nat := (P.info? t).map (·.bytes)
def aggT (P : Program) (t : TypeId) : Option Bool :=
  match P.underlying t with
  | some (.struct _) | some (.array _ _) => some true
  | some _ => some false
  | none => none
def zeroT (P : Program) (t : TypeId) : Option (List V) := ((P.info? t).bind (·.zero)).bind fun v => ofFlats v.cells.toList
def zeroV (P : Program) (t : TypeId) : Option V := ((P.info? t).bind (·.zero)).bind ofValue
def isByte (P : Program) (t : TypeId) : Option Bool :=
  match P.underlying t with
  | some (.int .u8) => some true
  | some _ => some false
  | none => none
def isIntT (P : Program) (t : TypeId) : Option Bool :=
  match P.underlying t with
  | some (.int _) => some true
  | some _ => some false
  | none => none
def eqKind : TypeDesc → Option EqK
  | .bool => some .bool
  | .pointer _ => some .ptr
  | .slice _ => some .slice
  | .map _ _ => some .map
  | .func _ _ _ => some .func
  | .interface _ => some .iface
  | _ => none
def keyKind (P : Program) (t : TypeId) : Option KeyK :=
  match P.underlying t with
  | some (.int _) => some .int
  | some .string => some .str
  | some .bool => some .bool
  | _ => none

def partsS (P : Program) (fs : Array Go.Field) : List (Nat × Operand) → Option (List (Nat × Nat × AOpd))
  | [] => some []
  | (i, x) :: rest => (fs[i]?).bind fun f => (szOf P f.type).bind fun n => (opd x).bind fun a => (partsS P fs rest).bind fun ps => some ((f.offset, n, a) :: ps)
def partsA (k : Nat) : List (Nat × Operand) → Option (List (Nat × Nat × AOpd))
  | [] => some []
  | (i, x) :: rest => (opd x).bind fun a => (partsA k rest).bind fun ps => some ((i * k, k, a) :: ps)
def partsL : List (Nat × Operand) → Option (List (Nat × AOpd))
  | [] => some []
  | (i, x) :: rest => (opd x).bind fun a => (partsL rest).bind fun ps => some ((i, a) :: ps)

def compBin (P : Program) (op : BinOp) (t : TypeId) (x y : AOpd) : Option AOp :=
  match op with
  | .eql | .neq => match P.underlying t with
    | some (.int _) | some .string => some (.bin op x y)
    | some d => (eqKind d).bind fun k => some (.eq (op == .neq) k x y)
    | none => none
  | _ => some (.bin op x y)

def compConv (P : Program) (src dst : TypeId) (x : AOpd) : Option AOp :=
  match P.underlying src, P.underlying dst with
  | some (.int _), some (.int k) => some (.convI k x)
  | some .string, some .string => some (.convSS x)
  | some (.int _), some .string => some (.convRS x)
  | some .string, some (.slice e) => if isByte P e = some true then some (.convSB x) else none
  | some (.slice e), some .string => if isByte P e = some true then some (.convBS x) else none
  | some (.slice _), some (.slice e) => if src = dst ∧ isByte P e = some true then some (.convBB x) else none
  | _, _ => none

def compBuiltin (P : Program) (b : Go.Builtin) (ts : List TypeId) (args : List AOpd) : Option AOp :=
  match b, ts, args with
  | .len, t :: _, x :: _ => match P.underlying t with
    | some .string => some (.lenV .str x)
    | some (.slice _) => some (.lenV .sl x)
    | some (.map _ _) => some (.lenV .map x)
    | _ => none
  | .cap, t :: _, x :: _ => match P.underlying t with
    | some (.slice _) => some (.capV x)
    | _ => none
  | .append, t :: u :: _, [s, x] => match P.underlying t with
    | some (.slice e) => (szOf P e).bind fun k => (bytesOfT P e).bind fun bytes => (isByte P e).bind fun by_ => (isIntT P u).bind fun zs => (zeroT P e).bind fun z =>
        if z.length ≠ k ∨ k = 0 ∨ (by_ = true ∧ V.beqs z [.i .u8 0] = false) then none else if zs then some (.app0 by_ z bytes s x) else some (.app by_ k bytes s x)
    | _ => none
  | .copy, t :: _, [d, s] => match P.underlying t with
    | some (.slice e) => (szOf P e).bind fun k => (isByte P e).bind fun by_ => if by_ = true ∧ k ≠ 1 then none else some (.copy by_ k d s)
    | _ => none
  | .clear, t :: _, [x] => match P.underlying t with
    | some (.slice e) => (isByte P e).bind fun by_ => (zeroT P e).bind fun z => if by_ = true ∧ V.beqs z [.i .u8 0] = false then none else some (.clearS by_ z x)
    | _ => none
  | .min, _, x :: xs => some (.min x xs)
  | .max, _, x :: xs => some (.max x xs)
  | _, _, _ => none

def compOp (P : Program) (o : Oper) : Option AOp :=
  match o.op with
  | .move x | .assign x => (opd x).map .mv
  | .pick c a b => (opd c).bind fun c => (opd a).bind fun a => (opd b).bind fun b => some (.pick c a b)
  | .alloc e => (zeroT P e).map .alloc
  | .box e x => (szOf P e).bind fun k => (opd x).map (.box k)
  | .build t ps => match P.underlying t with
    | some (.struct fs) => (zeroT P t).bind fun z => (partsS P fs ps.toList).bind fun ps => if fs.all fun f => (szOf P f.type).isSome then some (.build z ps) else none
    | some (.array _ e) => (zeroT P t).bind fun z => (szOf P e).bind fun k => (partsA k ps.toList).map (.build z)
    | _ => none
  | .buildSlice t len ps => match P.underlying t with
    | some (.slice e) => (szOf P e).bind fun k => (zeroT P e).bind fun z => (isByte P e).bind fun by_ => (partsL ps.toList).bind fun ps =>
        if z.length = k ∧ len * k ≤ 16777216 then some (.mkSl z by_ len ps) else none
    | _ => none
  | .load t x => (szOf P t).bind fun n => (aggT P t).bind fun g => (opd x).bind fun x => if g = true ∨ n = 1 then some (.load n g x) else none
  | .store t x v => (szOf P t).bind fun n => (opd x).bind fun x => (opd v).map (.store n x)
  | .nilCheck x => (opd x).map .nilCheck
  | .binOp op t x y _ => (opd x).bind fun x => (opd y).bind fun y => compBin P op t x y
  | .unOp op _ x => (opd x).map (.un op)
  | .convert src dst x => (opd x).bind (compConv P src dst)
  | .makeInterface t x => match P.underlying t with
    | some (.interface _) => none
    | some _ => (opd x).map (.mkI t)
    | none => none
  | .makeFunc (.func f) first caps => if first.isEmpty then (opds caps.toList).map (.mkF f) else none
  | .makeMap _ none => some .mkM
  | .makeSlice t l c => match P.underlying t with
    | some (.slice e) => (zeroT P e).bind fun z => (szOf P e).bind fun k => (isByte P e).bind fun by_ => (bytesOfT P e).bind fun bytes => (opd l).bind fun l => (opd c).bind fun c =>
        if z.length = k ∧ (by_ = false ∨ V.beqs z [.i .u8 0] = true) then some (.mkS z by_ bytes l c) else none
    | _ => none
  | .slice t x lo hi mx => (opd x).bind fun x => (opdO lo).bind fun lo => (opdO hi).bind fun hi => (opdO mx).bind fun mx => match P.underlying t with
    | some .string => if mx.isNone then some (.sliceS x lo hi) else none
    | some (.slice e) => (szOf P e).bind fun k => if mx.isSome ∧ hi.isNone then none else some (.sliceL k x lo hi mx)
    | _ => none
  | .fieldAddr t x i => match P.underlying t with
    | some (.struct fs) => (fs[i]?).bind fun f => (szOf P f.type).bind fun n => if n = 0 then none else (opd x).map (.fa f.offset)
    | _ => none
  | .field t x i => match P.underlying t with
    | some (.struct fs) => (fs[i]?).bind fun f => (szOf P f.type).bind fun n => (aggT P f.type).bind fun g => if g = true ∨ n = 1 then (opd x).map (.fld f.offset n g) else none
    | _ => none
  | .indexAddr t x i => (opd x).bind fun x => (opd i).bind fun i => match P.underlying t with
    | some (.slice e) => (szOf P e).bind fun k => some (.ia k x i)
    | some (.array len e) => (szOf P e).bind fun k => some (.iaA len k x i)
    | _ => none
  | .index t x i => (opd x).bind fun x => (opd i).bind fun i => match P.underlying t with
    | some .string => some (.ixS x i)
    | some (.array len e) => (szOf P e).bind fun k => (aggT P e).bind fun g => if g = true ∨ k = 1 then some (.ixA len k g x i) else none
    | _ => none
  | .lookup t x i ok => (opd x).bind fun x => (opd i).bind fun i => match P.underlying t with
    | some (.map k e) => (keyKind P k).bind fun kk => (zeroV P e).bind fun z => some (.lk kk z ok x i)
    | _ => none
  | .mapUpdate t m k v | .insert t m k v => (opd m).bind fun m => (opd k).bind fun k' => (opd v).bind fun v => match P.underlying t with
    | some (.map key _) => (keyKind P key).bind fun kk => some (.mu kk m k' v)
    | _ => none
  | .range t x => (opd x).bind fun x => match P.underlying t with
    | some .string => some (.rngS x)
    | _ => none
  | .next it true => (opd it).map .nextS
  | .extract x i => (opd x).map (.ext · i)
  | .call c => match c.callee with
    | .value _ => none
    | .builtin b => (opds c.args.toList).bind (compBuiltin P b c.argTypes.toList)
    | .invoke _ _ => none
  | _ => none
end Am
