/- AmCode: the abstract machine: code, heap, what each operation does, the evaluator. -/
import Derived.Test.YtibmhhdgcbaofaaDoorAmBase
import GoSem.Core.Sem
import GoSem.Core.Utf8
namespace Am
set_option linter.unusedVariables false
set_option linter.unusedSimpArgs false
open Go (IntKind BinOp UnOp)

inductive AOpd where
  | t (n : Nat)
  | c (v : V)
  | fn (f : Nat)
  deriving Inhabited

/-- Which kind a comparison with == is of. -/
inductive EqK where
  | bool | ptr | slice | map | func | iface
  deriving DecidableEq, Inhabited

inductive KeyK where
  | int | str | bool
  deriving DecidableEq, Inhabited
inductive LenK where
  | str | sl | map
  deriving DecidableEq, Inhabited

inductive AOp where
  | mv (x : AOpd)
  | pick (c a b : AOpd)
  | alloc (z : List V)
  | box (k : Nat) (x : AOpd)
  | build (z : List V) (parts : List (Nat × Nat × AOpd))
  | mkSl (z : List V) (by_ : Bool) (len : Nat) (parts : List (Nat × AOpd))
  | load (n : Nat) (agg : Bool) (x : AOpd)
  | store (n : Nat) (x v : AOpd)
  | nilCheck (x : AOpd)
  | bin (op : BinOp) (x y : AOpd)
  | eq (neg : Bool) (k : EqK) (x y : AOpd)
  | un (op : UnOp) (x : AOpd)
  | convI (k : IntKind) (x : AOpd)
  | convSS (x : AOpd)
  | convSB (x : AOpd)
  | convBS (x : AOpd)
  | convBB (x : AOpd)
  | convRS (x : AOpd)
  | mkI (t : Nat) (x : AOpd)
  | mkF (f : Nat) (caps : List AOpd)
  | mkM
  | mkS (z : List V) (by_ : Bool) (bytes : Nat) (len cap : AOpd)
  | sliceS (x : AOpd) (lo hi : Option AOpd)
  | sliceL (k : Nat) (x : AOpd) (lo hi mx : Option AOpd)
  | fa (off : Nat) (x : AOpd)
  | fld (off n : Nat) (agg : Bool) (x : AOpd)
  | ia (k : Nat) (x i : AOpd)
  | iaA (len k : Nat) (x i : AOpd)
  | ixS (x i : AOpd)
  | ixA (len k : Nat) (agg : Bool) (x i : AOpd)
  | lk (kk : KeyK) (z : V) (ok : Bool) (m k : AOpd)
  | mu (kk : KeyK) (m k v : AOpd)
  | rngS (x : AOpd)
  | nextS (it : AOpd)
  | ext (x : AOpd) (ix : Nat)
  | lenV (k : LenK) (x : AOpd)
  | capV (x : AOpd)
  | app (by_ : Bool) (k bytes : Nat) (s x : AOpd)
  | app0 (by_ : Bool) (z : List V) (bytes : Nat) (s n : AOpd)
  | copy (by_ : Bool) (k : Nat) (d s : AOpd)
  | clearS (by_ : Bool) (z : List V) (x : AOpd)
  | min (x : AOpd) (xs : List AOpd)
  | max (x : AOpd) (xs : List AOpd)
  | bad
  deriving Inhabited

/-- What an operation does to the heap: nothing, nor does it look · it looks · it makes a block · it changes what is there (a call may). -/
inductive OpK where
  | pure | read | alloc | eff
  deriving DecidableEq, Inhabited

def AOp.kind : AOp → OpK
  | .load .. | .sliceL .. | .ia .. | .convBS .. | .lk .. | .lenV .map _ => .read
  | .alloc .. | .box .. | .mkSl .. | .convSB .. | .mkM | .mkS .. | .rngS .. => .alloc
  | .store .. | .mu .. | .app .. | .app0 .. | .copy .. | .clearS .. | .nextS .. | .convBB .. => .eff
  | _ => .pure

inductive AAct where
  | op (x : AOp)
  | call (f : AOpd) (args : List AOpd)
  | inv (tbl : List (Nat × Nat)) (x : AOpd) (args : List AOpd)
  deriving Inhabited
def AAct.kind : AAct → OpK
  | .op x => x.kind
  | .call _ _ => .eff
  | .inv _ _ _ => .eff
/-- Which function stands for a type. -/
def inTbl : List (Nat × Nat) → Nat → Option Nat
  | [], _ => none
  | (t, f) :: r, ty => if t = ty then some f else inTbl r ty

/-- An operation in its place: 'look': so many of the heaps ahead of the last effects must read alike. -/
structure AOper where
  dst : Option Nat
  op : AAct
  guard : Option (Nat × Bool) := none
  look : Nat := 0
  deriving Inhabited

inductive Ex where
  | normal
  | exit (id : Nat)
  | ret
  deriving DecidableEq, Inhabited

inductive ACode where
  | skip
  | region (ops : List AOper)
  | regionD (ops : List AOper)
  | seq (a b : ACode)
  | cond (c : AOpd) (thn els : ACode)
  | block (id : Nat) (body : ACode)
  | loop (body : ACode)
  | rfn (f : AOpd) (params : List Nat) (assign body : ACode)
  | exit (id : Nat)
  | ret
  | bad
  deriving Inhabited

inductive ARes where
  | tmp (t : Nat)
  | cell (a : Nat) (n : Nat) (agg : Bool)
  deriving Inhabited

structure AFunc where
  ntmps : Nat
  results : List ARes
  code : ACode
  deriving Inhabited

/-! ### Temporaries -/
abbrev Tm := Tr V
def Tm.v (t : Tm) (n : Nat) : V := (t.get n).getD .un
def Tm.st (t : Tm) (d : Nat) (v : V) : Tm := Tr.set t d (some v)
def Tm.pd (t : Tm) (d : Option Nat) (v : V) : Tm :=
  match d with
  | some d => t.st d v
  | none => t
def Tm.args : List V → Nat → Tm
  | [], _ => .e
  | v :: vs, i => (Tm.args vs (i + 1)).st i v
def Tm.ev (t : Tm) : AOpd → V
  | .t n => t.v n
  | .c v => v
  | .fn f => .f (.fn f) []

theorem Tm.v_st (t : Tm) (d : Nat) (v : V) (n : Nat) : (t.st d v).v n = if n = d then v else t.v n := by
  unfold Tm.v Tm.st
  rw [Tr.get_set]
  split <;> rfl

/-! ### Memory -/
inductive LoopState where
  | ready | busy | done
  deriving DecidableEq, Inhabited

structure LoopSt where
  st : LoopState
  pend : Ex
  tm : Tm
  nt : Nat
  params : List Nat
  assign : ACode
  body : ACode
  deriving Inhabited

inductive Blk where
  | rows (k : Nat) (rs : List (List V)) (ro : Bool)
  | bytes (bs : List UInt8) (ro : Bool)
  | map (es : List (V × V))
  | iter (s : List UInt8) (pos : Nat)
  | loop (l : LoopSt)
  deriving Inhabited

def Blk.own : Blk → Bool
  | .rows _ _ ro => !ro
  | .bytes _ ro => !ro
  | _ => true

structure H where
  nx : Nat
  tr : Tr Blk
  deriving Inhabited

def H.get (h : H) (b : Nat) : Option Blk := h.tr.get b
def H.push (h : H) (x : Blk) : H := ⟨h.nx + 1, h.tr.set h.nx (some x)⟩
def H.set (h : H) (b : Nat) (x : Blk) : H := ⟨h.nx, h.tr.set b (some x)⟩
def H.kill (h : H) (b : Nat) : H := ⟨h.nx, h.tr.set b none⟩

theorem H.get_push (h : H) (x : Blk) (b : Nat) : (h.push x).get b = if b = h.nx then some x else h.get b := Tr.get_set _ _ _ _
theorem H.get_set (h : H) (b : Nat) (x : Blk) (b' : Nat) : (h.set b x).get b' = if b' = b then some x else h.get b' := Tr.get_set _ _ _ _
theorem H.get_kill (h : H) (b : Nat) (b' : Nat) : (h.kill b).get b' = if b' = b then none else h.get b' := Tr.get_set _ _ _ _

/-- A row of a block: the cells of one element. -/
def H.row (h : H) (b r : Nat) : Option (List V) :=
  match h.get b with
  | some (.rows _ rs _) => rs[r]?
  | some (.bytes bs _) => (bs[r]?).map fun c => [.i .u8 c.toNat]
  | _ => none
/-- n cells of it, from f on. -/
def H.rd (h : H) (b r f n : Nat) : Option (List V) :=
  (h.row b r).bind fun row => if f + n ≤ row.length then some ((row.drop f).take n) else none
def byteOf (v : V) : Option UInt8 :=
  match v with
  | .i .u8 n => if 0 ≤ n ∧ n < 256 then some (UInt8.ofNat n.toNat) else none
  | _ => none
def bytesOf : List V → Option (List UInt8)
  | [] => some []
  | v :: vs => (byteOf v).bind fun c => (bytesOf vs).bind fun cs => some (c :: cs)
/-- May stand in a cell. -/
def V.flat : V → Bool
  | .agg _ | .tup _ => false
  | _ => true
def H.wr (h : H) (b r f : Nat) (vs : List V) : Option H :=
  match h.get b with
  | some (.rows k rs false) =>
    (rs[r]?).bind fun row => if f + vs.length ≤ row.length ∧ vs.all V.flat then some (h.set b (.rows k (rs.set r (row.take f ++ vs ++ row.drop (f + vs.length))) false)) else none
  | some (.bytes bs false) =>
    if r < bs.length ∧ f = 0 then
      match vs with
      | [] => some h
      | [v] => (byteOf v).bind fun c => some (h.set b (.bytes (bs.set r c) false))
      | _ => none
    else none
  | _ => none
def V.cells : V → List V
  | .agg vs => vs
  | v => [v]

/-- The elements that a slice holds, by rows. -/
def H.rseg (h : H) (k : Nat) (a : Option (Nat × Nat)) (n : Nat) : Option (List (List V)) :=
  if n = 0 then some [] else
  match a with
  | none => none
  | some (b, r) => match h.get b with
    | some (.rows k' rs _) => if k' = k ∧ r + n ≤ rs.length then some ((rs.drop r).take n) else none
    | _ => none
def H.bseg (h : H) (a : Option (Nat × Nat)) (n : Nat) : Option (List UInt8) :=
  if n = 0 then some [] else
  match a with
  | none => none
  | some (b, r) => match h.get b with
    | some (.bytes bs _) => if r + n ≤ bs.length then some ((bs.drop r).take n) else none
    | _ => none

/-- Rows written over those that are there. -/
def splice {α : Type} (xs : List α) (i : Nat) (ys : List α) : List α := xs.take i ++ ys ++ xs.drop (i + ys.length)

def H.rput (h : H) (k : Nat) (a : Option (Nat × Nat)) (at_ : Nat) (rs : List (List V)) : Option H :=
  if rs = [] then some h else
  match a with
  | none => none
  | some (b, r) => match h.get b with
    | some (.rows k' old false) => if k' = k ∧ r + at_ + rs.length ≤ old.length then some (h.set b (.rows k' (splice old (r + at_) rs) false)) else none
    | _ => none
def H.bput (h : H) (a : Option (Nat × Nat)) (at_ : Nat) (bs : List UInt8) : Option H :=
  if bs = [] then some h else
  match a with
  | none => none
  | some (b, r) => match h.get b with
    | some (.bytes old false) => if r + at_ + bs.length ≤ old.length then some (h.set b (.bytes (splice old (r + at_) bs) false)) else none
    | _ => none
/-- The block may be gone: an append that may or may not have gone in place. -/
def H.loseR (h : H) (k : Nat) (a : Option (Nat × Nat)) (ex : Bool) : Option H :=
  if ex then some h else
  match a with
  | none => some h
  | some (b, _) => match h.get b with
    | some (.rows k' _ false) => if k' = k then some (h.kill b) else none
    | _ => none
def H.loseB (h : H) (a : Option (Nat × Nat)) (ex : Bool) : Option H :=
  if ex then some h else
  match a with
  | none => some h
  | some (b, _) => match h.get b with
    | some (.bytes _ false) => some (h.kill b)
    | _ => none

def roomOk (need bytes : Nat) : Bool := decide (0 < bytes) && decide (bytes ≤ 1048576) && decide (need * bytes ≤ 35184372088832)

def appRows (h : H) (k bytes : Nat) (a : Option (Nat × Nat)) (len cap : Nat) (ex : Bool) (new : List (List V)) : Option (V × H) :=
  if len + new.length ≤ cap then
    (h.rput k a len new).bind fun h' => some (.sl a (len + new.length) cap ex, h')
  else if roomOk (len + new.length) bytes then
    (h.rseg k a len).bind fun old => (h.loseR k a ex).bind fun h' =>
      some (.sl (some (h'.nx, 0)) (len + new.length) (len + new.length) false, h'.push (.rows k (old ++ new) false))
  else none
def appBytes (h : H) (bytes : Nat) (a : Option (Nat × Nat)) (len cap : Nat) (ex : Bool) (new : List UInt8) : Option (V × H) :=
  if len + new.length ≤ cap then
    (h.bput a len new).bind fun h' => some (.sl a (len + new.length) cap ex, h')
  else if roomOk (len + new.length) bytes then
    (h.bseg a len).bind fun old => (h.loseB a ex).bind fun h' =>
      some (.sl (some (h'.nx, 0)) (len + new.length) (len + new.length) false, h'.push (.bytes (old ++ new) false))
  else none

/-! ### Operations -/
def bitsOp (op : BinOp) (k : IntKind) (x y : Int) : Option Int :=
  let a := BitVec.ofInt k.bits x
  let b := BitVec.ofInt k.bits y
  match op with
  | .and => some (k.wrap (a &&& b).toNat)
  | .or => some (k.wrap (a ||| b).toNat)
  | .xor => some (k.wrap (a ^^^ b).toNat)
  | .andNot => some (k.wrap (a &&& ~~~b).toNat)
  | _ => none
def binI (op : BinOp) (k : IntKind) (x y : Int) : Option V :=
  match op with
  | .add => some (.i k (k.wrap (x + y)))
  | .sub => some (.i k (k.wrap (x - y)))
  | .mul => some (.i k (k.wrap (x * y)))
  | .quo => if y = 0 then none else some (.i k (k.wrap (x.tdiv y)))
  | .rem => if y = 0 then none else some (.i k (x.tmod y))
  | .and | .or | .xor | .andNot => (bitsOp op k x y).map (.i k)
  | .eql => some (.b (decide (x = y)))
  | .neq => some (.b (decide (x ≠ y)))
  | .lss => some (.b (decide (x < y)))
  | .leq => some (.b (decide (x ≤ y)))
  | .gtr => some (.b (decide (x > y)))
  | .geq => some (.b (decide (x ≥ y)))
  | _ => none
def shiftI (op : BinOp) (k : IntKind) (x y : Int) : Option V :=
  if y < 0 then none else
  match op with
  | .shl => some (.i k (k.wrap (x * 2 ^ (Nat.min y.toNat k.bits))))
  | .shr => some (.i k (x.fdiv (2 ^ (Nat.min y.toNat k.bits))))
  | _ => none
def binS (op : BinOp) (x y : List UInt8) : Option V :=
  match op with
  | .add => if x.length + y.length ≤ 140737488355328 then some (.s (x ++ y)) else none
  | .eql => some (.b (decide (x = y)))
  | .neq => some (.b (decide (x ≠ y)))
  | _ => none
def bin (op : BinOp) (x y : V) : Option V :=
  match x, y with
  | .i k a, .i k' b => match op with
    | .shl | .shr => shiftI op k a b
    | _ => if k = k' then binI op k a b else none
  | .s a, .s b => binS op a b
  | _, _ => none
def eqV (k : EqK) (x y : V) : Option Bool :=
  match k, x, y with
  | .bool, .b x, .b y => some (x == y)
  | .ptr, .p none, .p a => some a.isNone
  | .ptr, .p (some _), .p none => some false
  | .slice, .sl none _ _ _, .sl a _ _ _ => some a.isNone
  | .slice, .sl (some _) _ _ _, .sl none _ _ _ => some false
  | .map, .m none, .m a => some a.isNone
  | .map, .m (some _), .m none => some false
  | .func, .nf, .nf => some true
  | .func, .f _ _, .nf | .func, .nf, .f _ _ => some false
  | .iface, .ifc _ _, .nifc | .iface, .nifc, .ifc _ _ => some false
  | _, _, _ => none
def un (op : UnOp) (x : V) : Option V :=
  match op, x with
  | .neg, .i k n => some (.i k (k.wrap (0 - n)))
  | .not, .b x => some (.b !x)
  | .xor, .i k n => (bitsOp .xor k (if k.signed then -1 else k.max) n).map (.i k)
  | _, _ => none
def bound (x : V) (y : Nat) : Option Nat :=
  match x with
  | .i _ i => if 0 ≤ i ∧ i ≤ y then some i.toNat else none
  | _ => none
def boundO (x : Option V) (y d : Nat) : Option Nat :=
  match x with
  | some v => bound v y
  | none => some d
/-- Places filled, in order. -/
def fill (z : List V) : List (Nat × Nat × V) → Option (List V)
  | [] => some z
  | (off, n, v) :: rest => if v.cells.length = n ∧ off + n ≤ z.length then fill (splice z off v.cells) rest else none
def fillRows (k : Nat) (rs : List (List V)) : List (Nat × V) → Option (List (List V))
  | [] => some rs
  | (i, v) :: rest => if v.cells.length = k ∧ i < rs.length ∧ v.cells.all V.flat then fillRows k (rs.set i v.cells) rest else none
def aggOf (agg : Bool) (vs : List V) : Option V :=
  if agg then some (.agg vs) else match vs with
  | [v] => some v
  | _ => none
def keyEq (kk : KeyK) (k e : V) : Option Bool :=
  match kk, k, e with
  | .str, .s a, .s b => some (decide (a = b))
  | .int, .i k a, .i k' b => if k = k' then some (decide (a = b)) else none
  | .bool, .b a, .b b => some (a == b)
  | _, _, _ => none
def findKey (kk : KeyK) (k : V) : List (V × V) → Option (Option V)
  | [] => some none
  | e :: es => match keyEq kk k e.1 with
    | some true => some (some e.2)
    | some false => findKey kk k es
    | none => none
def putKey (kk : KeyK) (k v : V) : List (V × V) → Option (List (V × V))
  | [] => some [(k, v)]
  | e :: es => match keyEq kk k e.1 with
    | some true => some ((k, v) :: es)
    | some false => (putKey kk k v es).bind fun es' => some (e :: es')
    | none => none
/-- How wide a block's rows are. -/
def H.kOf (h : H) (b : Nat) : Option Nat :=
  match h.get b with
  | some (.rows k _ _) => some k
  | some (.bytes _ _) => some 1
  | _ => none
def minV (f : Int → Int → Int) : V → List V → Option V
  | v, [] => some v
  | .i k x, .i k' y :: vs => if k = k' then minV f (.i k (f x y)) vs else none
  | _, _ => none

/-- What an operation gives, and the heap behind it. -/
def AOp.ev (o : AOp) (ρ : AOpd → V) (h : H) : Option (V × H) :=
  match o with
  | .mv x => some (ρ x, h)
  | .pick c a b => match ρ c with
    | .b x => some (if x then ρ a else ρ b, h)
    | _ => none
  | .alloc z => if z = [] ∨ !z.all V.flat then none else some (.p (some (h.nx, 0, 0)), h.push (.rows z.length [z] false))
  | .box k x => if (ρ x).cells.length = k ∧ 0 < k ∧ (ρ x).cells.all V.flat then some (.p (some (h.nx, 0, 0)), h.push (.rows k [(ρ x).cells] false)) else none
  | .build z parts => (fill z (parts.map fun p => (p.1, p.2.1, ρ p.2.2))).bind fun cs => some (.agg cs, h)
  | .mkSl z by_ len parts =>
    (fillRows z.length (List.replicate len z) (parts.map fun p => (p.1, ρ p.2))).bind fun rs =>
      if by_ then (bytesOf rs.flatten).bind fun bs => if z.length = 1 then some (.sl (some (h.nx, 0)) len len true, h.push (.bytes bs false)) else none
      else if z = [] then none else some (.sl (some (h.nx, 0)) len len true, h.push (.rows z.length rs false))
  | .load n agg x => match ρ x with
    | .p (some (b, r, f)) => (h.rd b r f n).bind fun vs => (aggOf agg vs).bind fun v => some (v, h)
    | _ => none
  | .store n x v => match ρ x with
    | .p (some (b, r, f)) => if (ρ v).cells.length = n then (h.wr b r f (ρ v).cells).bind fun h' => some (.un, h') else none
    | _ => none
  | .nilCheck x => match ρ x with
    | .p (some a) => some (.p (some a), h)
    | .f c vs => some (.f c vs, h)
    | .ifc t v => some (.ifc t v, h)
    | _ => none
  | .bin op x y => (Am.bin op (ρ x) (ρ y)).bind fun v => some (v, h)
  | .eq neg k x y => (eqV k (ρ x) (ρ y)).bind fun r => some (.b (if neg then !r else r), h)
  | .un op x => (Am.un op (ρ x)).bind fun v => some (v, h)
  | .convI k x => match ρ x with
    | .i _ n => some (.i k (k.wrap n), h)
    | _ => none
  | .convSS x => match ρ x with
    | .s l => some (.s l, h)
    | _ => none
  | .convSB x => match ρ x with
    | .s l => some (.sl (some (h.nx, 0)) l.length l.length false, h.push (.bytes l false))
    | _ => none
  | .convBS x => match ρ x with
    | .sl a n _ _ => (h.bseg a n).bind fun bs => some (.s bs, h)
    | _ => none
  | .convBB x => match ρ x with
    | .sl (some (b, r)) n (c + 1) _ => match h.get b with
      | some (.bytes bs false) => some (.sl (some (b, r)) n (c + 1) false, h.set b (.bytes bs false))
      | _ => none
    | _ => none
  | .convRS x => match ρ x with
    | .i _ n => some (.s (Go.Utf8.encode n).data.toList, h)
    | _ => none
  | .mkI t x => some (.ifc t (ρ x), h)
  | .mkF f caps => some (.f (.fn f) (caps.map ρ), h)
  | .mkM => some (.m (some h.nx), h.push (.map []))
  | .mkS z by_ bytes len cap => match ρ len, ρ cap with
    | .i .i64 l, .i .i64 c =>
      if 0 ≤ l ∧ l ≤ c ∧ 0 < bytes ∧ bytes * c.toNat ≤ 140737488355328 ∧ z ≠ [] ∧ z.all V.flat then
        if by_ then (if z.length = 1 then some (.sl (some (h.nx, 0)) l.toNat c.toNat true, h.push (.bytes (List.replicate c.toNat 0) false)) else none)
        else some (.sl (some (h.nx, 0)) l.toNat c.toNat true, h.push (.rows z.length (List.replicate c.toNat z) false))
      else none
    | _, _ => none
  | .sliceS x lo hi => match ρ x with
    | .s l => (boundO (hi.map ρ) l.length l.length).bind fun e => (boundO (lo.map ρ) e 0).bind fun s => some (.s ((l.take e).drop s), h)
    | _ => none
  | .sliceL k x lo hi mx => match ρ x with
    | .sl a len cap ex =>
      (boundO (mx.map ρ) cap cap).bind fun m => (boundO (hi.map ρ) m len).bind fun e => (boundO (lo.map ρ) e 0).bind fun s =>
        match a with
        | none => some (.sl none (e - s) (m - s) (ex || mx.isSome), h)
        | some (b, r) => if s = 0 ∨ h.kOf b = some k then some (.sl (some (b, r + s)) (e - s) (m - s) (ex || mx.isSome), h) else none
    | _ => none
  | .fa off x => match ρ x with
    | .p (some (b, r, f)) => some (.p (some (b, r, f + off)), h)
    | _ => none
  | .fld off n agg x => match ρ x with
    | .agg cs => if off + n ≤ cs.length then (aggOf agg ((cs.drop off).take n)).bind fun v => some (v, h) else none
    | _ => none
  | .ia k x i => match ρ x, ρ i with
    | .sl (some (b, r)) len _ _, .i _ n => if 0 ≤ n ∧ n < len ∧ h.kOf b = some k then some (.p (some (b, r + n.toNat, 0)), h) else none
    | _, _ => none
  | .iaA len k x i => match ρ x, ρ i with
    | .p (some (b, r, f)), .i _ n => if 0 ≤ n ∧ n < len then some (.p (some (b, r, f + n.toNat * k)), h) else none
    | _, _ => none
  | .ixS x i => match ρ x, ρ i with
    | .s l, .i _ n => if 0 ≤ n then (l[n.toNat]?).bind fun c => some (.i .u8 c.toNat, h) else none
    | _, _ => none
  | .ixA len k agg x i => match ρ x, ρ i with
    | .agg cs, .i _ n => if 0 ≤ n ∧ n < len ∧ n.toNat * k + k ≤ cs.length then (aggOf agg ((cs.drop (n.toNat * k)).take k)).bind fun v => some (v, h) else none
    | _, _ => none
  | .lk kk z ok m k => match ρ m with
    | .m none => some (if ok then .tup [z, .b false] else z, h)
    | .m (some r) => match h.get r with
      | some (.map es) => (findKey kk (ρ k) es).bind fun e => match e with
        | some v => some (if ok then .tup [v, .b true] else v, h)
        | none => some (if ok then .tup [z, .b false] else z, h)
      | _ => none
    | _ => none
  | .mu kk m k v => match ρ m with
    | .m (some r) => match h.get r with
      | some (.map es) => (putKey kk (ρ k) (ρ v) es).bind fun es' => some (.un, h.set r (.map es'))
      | _ => none
    | _ => none
  | .rngS x => match ρ x with
    | .s l => some (.p (some (h.nx, 0, 0)), h.push (.iter l 0))
    | _ => none
  | .nextS it => match ρ it with
    | .p (some (b, 0, 0)) => match h.get b with
      | some (.iter l pos) =>
        if pos < l.length then
          let d := Go.Utf8.decode ⟨l.toArray⟩ pos
          some (.tup [.b true, .i .i64 pos, .i .i32 d.1], h.set b (.iter l (pos + d.2)))
        else some (.tup [.b false], h)
      | _ => none
    | _ => none
  | .ext x ix => match ρ x with
    | .tup vs => (vs[ix]?).bind fun v => some (v, h)
    | _ => none
  | .lenV k x => match k, ρ x with
    | .str, .s l => some (.i .i64 l.length, h)
    | .sl, .sl _ n _ _ => some (.i .i64 n, h)
    | .map, .m none => some (.i .i64 0, h)
    | .map, .m (some r) => match h.get r with
      | some (.map es) => some (.i .i64 es.length, h)
      | _ => none
    | _, _ => none
  | .capV x => match ρ x with
    | .sl _ _ c true => some (.i .i64 c, h)
    | _ => none
  | .app by_ k bytes s x => match ρ s, ρ x with
    | .sl a len cap ex, .sl a' n _ _ =>
      if by_ then (h.bseg a' n).bind fun new => appBytes h bytes a len cap ex new
      else (h.rseg k a' n).bind fun new => appRows h k bytes a len cap ex new
    | .sl a len cap ex, .s l => if by_ then appBytes h bytes a len cap ex l else none
    | _, _ => none
  | .app0 by_ z bytes s n => match ρ s, ρ n with
    | .sl a len cap ex, .i .i64 c =>
      if 0 ≤ c ∧ 0 < bytes ∧ c * bytes ≤ 140737488355328 ∧ z ≠ [] ∧ z.all V.flat then
        if by_ then (if z.length = 1 then appBytes h bytes a len cap ex (List.replicate c.toNat 0) else none)
        else appRows h z.length bytes a len cap ex (List.replicate c.toNat z)
      else none
    | _, _ => none
  | .copy by_ k d s => match ρ d, ρ s with
    | .sl a len _ _, .sl a' n _ _ =>
      if by_ then (h.bseg a' (Nat.min n len)).bind fun bs => (h.bput a 0 bs).bind fun h' => some (.i .i64 (Nat.min n len : Nat), h')
      else (h.rseg k a' (Nat.min n len)).bind fun rs => (h.rput k a 0 rs).bind fun h' => some (.i .i64 (Nat.min n len : Nat), h')
    | .sl a len _ _, .s l => if by_ then (h.bput a 0 (l.take (Nat.min l.length len))).bind fun h' => some (.i .i64 (Nat.min l.length len : Nat), h') else none
    | _, _ => none
  | .clearS by_ z x => match ρ x with
    | .sl a n _ _ =>
      if z = [] ∨ !z.all V.flat then none else
      if by_ then (if z.length = 1 then (h.bput a 0 (List.replicate n 0)).bind fun h' => some (.un, h') else none)
      else (h.rput z.length a 0 (List.replicate n z)).bind fun h' => some (.un, h')
    | _ => none
  | .min x xs => (minV (fun x y => if y < x then y else x) (ρ x) (xs.map ρ)).bind fun v => some (v, h)
  | .max x xs => (minV (fun x y => if y > x then y else x) (ρ x) (xs.map ρ)).bind fun v => some (v, h)
  | .bad => none

/-! ### Code -/
abbrev RunT := Cal → List V → H → Option (V × H)

def AOper.wanted (o : AOper) (t : Tm) : Bool :=
  match o.guard with
  | none => true
  | some (d, want) => match t.v d with
    | .b x => x == want
    | _ => false
def lookOk (o : AAct) (ρ : AOpd → V) (v : V) (hs : List H) : Bool :=
  match o with
  | .op o => hs.all fun g => match o.ev ρ g with
    | some (v', _) => V.beq v v'
    | none => false
  | _ => false

def evOp (R : RunT) (op : AAct) (t : Tm) (h : H) : Option (V × H) :=
  match op with
  | .call f args => match t.ev f with
    | .f c caps => R c (args.map t.ev ++ caps) h
    | _ => none
  | .inv tbl x args => match t.ev x with
    | .ifc ty v => match inTbl tbl ty with
      | some f => R (.fn f) (v :: args.map t.ev) h
      | none => none
    | _ => none
  | .op op => op.ev t.ev h

def evOps (R : RunT) : List AOper → Tm → H → Option (Tm × H)
  | [], t, h => some (t, h)
  | o :: os, t, h =>
    if o.wanted t then (evOp R o.op t h).bind fun r => evOps R os (t.pd o.dst r.1) r.2
    else evOps R os (t.pd o.dst .un) h

/-- The heaps behind the effects, one more. -/
def behind (o : AAct) (h : H) (hs : List H) : List H :=
  match o.kind with
  | .eff => h :: hs
  | _ => hs
/-- What a look must show: the same at each of the heaps at which it may be taken. -/
def looked (o : AOper) (ρ : AOpd → V) (v : V) (hs : List H) : Bool :=
  match o.op.kind with
  | .read => lookOk o.op ρ v (hs.take (o.look + 1))
  | _ => true

/-- One operation of a region that draws its order: what it gives, the heap behind it. -/
def stepD (R : RunT) (o : AOper) (t : Tm) (h : H) (hs : List H) : Option (V × H) :=
  if o.wanted t then (evOp R o.op t h).bind fun r => if looked o t.ev r.1 hs && Nat.ble h.nx r.2.nx then some r else none
  else some (.un, h)

/-- The operations of a region that draws its order, in one order that stands for all; 'hs': the heaps behind the effects so far, the last one first (at the end the first heap). -/
def evOpsD (R : RunT) : List AOper → Tm → H → List H → Option (Tm × H)
  | [], t, h, _ => some (t, h)
  | o :: os, t, h, hs => (stepD R o t h hs).bind fun r => evOpsD R os (t.pd o.dst r.1) r.2 (behind o.op r.2 hs)

/-- A loop: its rounds, at most so many. -/
def iter {σ ε : Type} (body : σ → Option (Option ε × σ)) : Nat → σ → Option (ε × σ)
  | 0, _ => none
  | n + 1, s => (body s).bind fun r => match r.1 with
    | none => iter body n r.2
    | some e => some (e, r.2)

abbrev IterT := ((Tm × H) → Option (Option Ex × (Tm × H))) → (Tm × H) → Option (Ex × (Tm × H))

/-- That the loop around (if any) is there. -/
def aroundOk (h : H) : Option Nat → Bool
  | none => true
  | some l => match h.get l with
    | some (.loop _) => true
    | _ => false

def evA (R : RunT) (I : IterT) (nt : Nat) (ar : Option Nat) : ACode → Tm → H → Option (Ex × (Tm × H))
  | .skip, t, h => some (.normal, t, h)
  | .region ops, t, h => (evOps R ops t h).bind fun r => some (.normal, r)
  | .regionD ops, t, h => (evOpsD R ops t h [h]).bind fun r => some (.normal, r)
  | .seq a b, t, h => (evA R I nt ar a t h).bind fun r => match r.1 with
    | .normal => evA R I nt ar b r.2.1 r.2.2
    | e => some (e, r.2)
  | .cond c x y, t, h => match t.ev c with
    | .b v => if v then evA R I nt ar x t h else evA R I nt ar y t h
    | _ => none
  | .block id c, t, h => (evA R I nt ar c t h).bind fun r => match r.1 with
    | .exit id' => if id' = id then some (.normal, r.2) else some (.exit id', r.2)
    | e => some (e, r.2)
  | .loop c, t, h => I (fun s => (evA R I nt ar c s.1 s.2).bind fun r => match r.1 with
    | .normal => some (none, r.2)
    | e => some (some e, r.2)) (t, h)
  | .rfn f params assign body, t, h => if aroundOk h ar then match t.ev f with
    | .f (.fn f) caps =>
      (R (.fn f) ([.f (.yl h.nx) []] ++ caps) (h.push (.loop { st := .ready, pend := .normal, tm := t, nt := nt, params := params, assign := assign, body := body }))).bind fun r =>
        match r.2.get h.nx with
        | some (.loop l) => if l.st = .busy then none else some (l.pend, t, r.2.kill h.nx)
        | _ => none
    | _ => none
    else none
  | .exit id, t, h => some (.exit id, t, h)
  | .ret, t, h => some (.ret, t, h)
  | .bad, _, _ => none

def evRes (t : Tm) (h : H) : List ARes → Option (List V)
  | [] => some []
  | .tmp d :: rs => (evRes t h rs).bind fun vs => some (t.v d :: vs)
  | .cell a n agg :: rs => match t.v a with
    | .p (some (b, r, f)) => (h.rd b r f n).bind fun vs => (aggOf agg vs).bind fun v => (evRes t h rs).bind fun ws => some (v :: ws)
    | _ => none
def resV : List V → V
  | [v] => v
  | vs => .tup vs

def evFn (R : RunT) (I : IterT) (af : AFunc) (args : List V) (h : H) : Option (V × H) :=
  if args.length ≤ af.ntmps then
    (evA R I af.ntmps none af.code (Tm.args args 0) h).bind fun r => match r.1 with
      | .exit _ => none
      | _ => (evRes r.2.1 r.2.2 af.results).bind fun vs => some (resV vs, r.2.2)
  else none

def stParams (t : Tm) : List Nat → List V → Tm
  | p :: ps, v :: vs => stParams (t.st p v) ps vs
  | _, _ => t

def evRound (R : RunT) (I : IterT) (l : Nat) (L : LoopSt) (args : List V) (h : H) : Option (V × H) :=
  if args.length = L.params.length then
    (evA R I L.nt (some l) L.assign (stParams L.tm L.params args) h).bind fun r => match r.1 with
      | .normal => match r.2.2.get l with
        | some (.loop L1) => if L1.st = .ready then
            (evA R I L.nt (some l) L.body r.2.1 (r.2.2.set l (.loop { L1 with st := .busy }))).bind fun q => match q.2.2.get l with
              | some (.loop L2) => some (.b (decide (q.1 = .normal)), q.2.2.set l (.loop { L2 with st := if q.1 = .normal then .ready else .done, pend := q.1 }))
              | _ => none
          else none
        | _ => none
      | _ => none
  else none

/-- The program of the machine, and what is taken for granted of some functions. -/
structure Prog where
  fn : Nat → Option AFunc
  ext : Nat → Option (List V → H → Option (V × H))

/-- That a function value that is a loop's yield is handed over first: what is called so runs code of its own. -/
def isYl : List V → Bool
  | .f (.yl _) _ :: _ => true
  | _ => false

def evCal (pr : Prog) (R : RunT) (I : IterT) : RunT
  | .fn f, args, h => match pr.ext f with
    | some g => if isYl args then none else g args h
    | none => match pr.fn f with
      | some af => evFn R I af args h
      | none => none
  | .yl l, args, h => match h.get l with
    | some (.loop L) => evRound R I l L args h
    | _ => none

def runN (pr : Prog) : Nat → RunT
  | 0, _, _, _ => none
  | n + 1, c, args, h => evCal pr (runN pr n) (fun b s => iter b n s) c args h

end Am
