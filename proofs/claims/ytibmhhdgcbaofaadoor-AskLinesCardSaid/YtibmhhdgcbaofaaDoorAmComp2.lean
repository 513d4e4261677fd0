/- AmComp2: code, from the model's to the abstract machine's. -/
import Derived.Test.YtibmhhdgcbaofaaDoorAmComp
import Derived.OrdersIn
namespace Am
set_option linter.unusedVariables false
set_option linter.unusedSimpArgs false
open Go (IntKind BinOp UnOp Value Program TypeId TypeDesc Operand Oper Code Tmp)

def dstOk (nt : Nat) : Option Nat → Bool
  | some d => decide (d < nt)
  | none => true

/-- A call of a value: what is called, and with what. -/
def callOf (o : Oper) : Option (Operand × Array Operand) :=
  match o.op with
  | .call c => match c.callee with
    | .value f => some (f, c.args)
    | _ => none
  | _ => none
/-- A call of a method, by what lies in an interface: only where what lies in it is a pointer, and the method is its own. -/
def invOf (o : Oper) : Option (Operand × String × Array Operand) :=
  match o.op with
  | .call c => match c.callee with
    | .invoke x name => some (x, name, c.args)
    | _ => none
  | _ => none
def invAt (P : Program) (name : String) (i : Nat) : Option Nat :=
  match P.underlying i with
  | some (.pointer _) => (P.info? i).bind fun ti => (ti.methods.find? (·.name == name)).bind fun m => if m.path.isEmpty then match m.func with
    | some (f, true) => some f
    | _ => none
    else none
  | _ => none
def invTbl (P : Program) (name : String) : List Nat → List (Nat × Nat)
  | [] => []
  | i :: is => match invAt P name i with
    | some f => (i, f) :: invTbl P name is
    | none => invTbl P name is
def compAct0 (P : Program) (o : Oper) : Option AAct :=
  match callOf o with
  | some (f, as) => (opd f).bind fun f => (opds as.toList).map (.call f)
  | none => match invOf o with
    | some (x, name, as) => (opd x).bind fun x => (opds as.toList).map (.inv (invTbl P name (List.range P.types.size)) x)
    | none => (compOp P o).map .op
def isDefer (o : Oper) : Bool :=
  match o.op with
  | .defer _ => true
  | .select _ _ => true
  | _ => false
/-- What is not taken may stand where it is not reached. -/
def compAct (P : Program) (o : Oper) : Option AAct :=
  match compAct0 P o with
  | some x => some x
  | none => if isDefer o then none else some (.op .bad)

def compOper (P : Program) (nt : Nat) (ops : Array Oper) (look : Nat) (o : Oper) : Option AOper :=
  if dstOk nt o.dst then
    (compAct P o).bind fun op => match o.guard with
      | none => some { dst := o.dst, op := op, guard := none, look := look }
      | some (j, want) => ((ops[j]?).bind (·.dst)).bind fun d => if d < nt then some { dst := o.dst, op := op, guard := some (d, want), look := look } else none
  else none

def compOpers (P : Program) (nt : Nat) (ops : Array Oper) : List Oper → Option (List AOper)
  | [] => some []
  | o :: os => (compOper P nt ops 0 o).bind fun a => (compOpers P nt ops os).bind fun as => some (a :: as)

/-! ### Regions that draw their order -/
/-- The operations that must come ahead of one, directly or through others; as bits. -/
def bits (acc : List Nat) : List Go.Edge → Nat
  | [] => 0
  | e :: es => if Go.Region.binds .any e then (2 ^ e.on ||| acc.getD e.on 0) ||| bits acc es else bits acc es
def bef : List Oper → List Nat → List Nat
  | [], acc => acc
  | o :: os, acc => bef os (acc ++ [bits acc o.after.toList])
def befores (ops : Array Oper) : List Nat := bef ops.toList []
def isEff (P : Program) (o : Oper) : Bool :=
  match compAct P o with
  | some op => op.kind == .eff
  | none => true
/-- All that must come ahead of number e and is not yet there, and e. -/
def upTo (bs : List Nat) (n e : Nat) (done : List Nat) : List Nat :=
  done ++ ((List.range n).filter fun i => (bs.getD e 0).testBit i && !done.contains i) ++ [e]
/-- One order: the effects as they stand, ahead of each no more than it needs; the rest behind. -/
def canon (bs : List Nat) (n : Nat) (effs : List Nat) : List Nat :=
  let done := effs.foldl (fun done e => upTo bs n e done) []
  done ++ (List.range n).filter fun i => !done.contains i
/-- How many of the effects ahead need not come ahead of i. -/
def looks (bs : List Nat) (effs ahead : List Nat) (i : Nat) : Nat := (effs.filter fun e => ahead.contains e && !(bs.getD i 0).testBit e).length

def compD (P : Program) (nt : Nat) (ops : Array Oper) (bs effs : List Nat) : List Nat → List Nat → Option (List (Nat × AOper))
  | _, [] => some []
  | ahead, i :: is => (ops[i]?).bind fun o => (compOper P nt ops (looks bs effs ahead i) o).bind fun a => (compD P nt ops bs effs (ahead ++ [i]) is).bind fun as => some ((i, a) :: as)

/-- The temporaries that an operation looks at. -/
def AOpd.tmp : AOpd → List Nat
  | .t n => [n]
  | _ => []
def optT : Option AOpd → List Nat
  | some x => x.tmp
  | none => []
def AOp.tmps : AOp → List Nat
  | .mv x | .box _ x | .load _ _ x | .nilCheck x | .un _ x | .convI _ x | .convSS x | .convSB x | .convBS x | .convBB x | .convRS x | .mkI _ x | .fa _ x | .fld _ _ _ x | .rngS x | .nextS x | .ext x _ | .lenV _ x | .capV x | .clearS _ _ x => x.tmp
  | .store _ x y | .bin _ x y | .eq _ _ x y | .mkS _ _ _ x y | .ia _ x y | .iaA _ _ x y | .ixS x y | .ixA _ _ _ x y | .lk _ _ _ x y | .app _ _ _ x y | .app0 _ _ _ x y | .copy _ _ x y => x.tmp ++ y.tmp
  | .pick x y z | .mu _ x y z => x.tmp ++ y.tmp ++ z.tmp
  | .alloc _ | .mkM | .bad => []
  | .build _ ps => ps.flatMap fun p => p.2.2.tmp
  | .mkSl _ _ _ ps => ps.flatMap fun p => p.2.tmp
  | .mkF _ xs => xs.flatMap AOpd.tmp
  | .sliceS x a b => x.tmp ++ optT a ++ optT b
  | .sliceL _ x a b c => x.tmp ++ optT a ++ optT b ++ optT c
  | .min x xs | .max x xs => x.tmp ++ xs.flatMap AOpd.tmp
def AAct.tmps : AAct → List Nat
  | .op x => x.tmps
  | .call f xs => f.tmp ++ xs.flatMap AOpd.tmp
  | .inv _ x xs => x.tmp ++ xs.flatMap AOpd.tmp

def looksOf (ops : Array Oper) (o : Oper) (x : AOper) : List Nat := o.looksAt ops ++ x.op.tmps ++ (match x.guard with
  | some g => [g.1]
  | none => [])
def dstIn (d : Option Nat) (l : List Nat) : Bool :=
  match d with
  | some d => l.contains d
  | none => false
def apartD (ops : Array Oper) (o o' : Oper) (x x' : AOper) : Bool :=
  !dstIn x.dst (looksOf ops o' x') && !dstIn x'.dst (looksOf ops o x) && (x.dst.isNone || x.dst != x'.dst)

/-- What the proof asks of the order: ahead of each all that must be · an effect only behind all that is ahead of it · two that touch one temporary are ordered · a look reaches back to an effect that must be ahead. 'ahead', 'effs': the last one first. -/
def chk (ops : Array Oper) (bs : List Nat) : List (Nat × AOper) → List Nat → List (Nat × AOper) → Bool
  | _, _, [] => true
  | ahead, effs, (i, x) :: rest =>
    let b := bs.getD i 0
    (match ops[i]? with
    | some o => !(ahead.map (·.1)).contains i && decide (b < 2 ^ ops.size) &&
      ((List.range ops.size).all fun j => !b.testBit j || (ahead.map (·.1)).contains j) &&
      (ahead.all fun q => b.testBit q.1 || (x.op.kind != .eff && (match ops[q.1]? with
        | some o' => apartD ops o' o q.2 x
        | none => false))) &&
      (match effs[x.look]? with
        | some e => b.testBit e
        | none => true)
    | none => false) &&
    chk ops bs ((i, x) :: ahead) (if x.op.kind == .eff then i :: effs else effs) rest

def compRegD (P : Program) (nt : Nat) (ops : Array Oper) : Option (List AOper) :=
  let bs := befores ops
  let effs := (List.range ops.size).filter fun i => match ops[i]? with
    | some o => isEff P o
    | none => true
  (compD P nt ops bs effs [] (canon bs ops.size effs)).bind fun l => if (List.range ops.size).all (fun j => (l.map (·.1)).contains j) && chk ops bs [] [] l then some (l.map (·.2)) else none

def compC (P : Program) (nt : Nat) : Code → Option ACode
  | .skip => some .skip
  | .label _ => some .skip
  | .region _ ops draw => if draw then (if P.follows .mixedOrders then (compRegD P nt ops).map .regionD else none) else (compOpers P nt ops ops.toList).map .region
  | .seq a b => (compC P nt a).bind fun x => (compC P nt b).bind fun y => some (.seq x y)
  | .cond c a b => (opd c).bind fun z => (compC P nt a).bind fun x => (compC P nt b).bind fun y => some (.cond z x y)
  | .block id c => (compC P nt c).map (.block id)
  | .loop c => (compC P nt c).map .loop
  | .rangeFunc f ps assign body => if ps.all (fun p => p < nt) then (opd f).bind fun z => (compC P nt assign).bind fun x => (compC P nt body).bind fun y => some (.rfn z ps.toList x y) else none
  | .exit id => some (.exit id)
  | .ret => some .ret
  | .scope c => compC P nt c
  | .goto _ => some .bad
  | .refuse _ => some .bad

def compRes (P : Program) : List Go.ResultVar → Option (List ARes)
  | [] => some []
  | .tmp t :: rs => (compRes P rs).map (.tmp t :: ·)
  | .cell a t :: rs => (szOf P t).bind fun n => (aggT P t).bind fun g => if g = true ∨ n = 1 then (compRes P rs).map (.cell a n g :: ·) else none

def compF (P : Program) (f : Go.Func) : Option AFunc :=
  f.body.bind fun c => (compC P f.ntmps c).bind fun ac => (compRes P f.results.toList).bind fun rs =>
    if f.name == "runtime.NumGoroutine" then none else some { ntmps := f.ntmps, results := rs, code := ac }

end Am
