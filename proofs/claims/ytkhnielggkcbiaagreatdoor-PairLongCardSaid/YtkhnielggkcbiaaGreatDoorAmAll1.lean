/- The abstract machine, part 1: texts of the folder wip/am, one behind the other. -/
import GoSem.Core.Program
import GoSem.Core.Sem
import GoSem.Core.Utf8
import Derived.CallsIn
import Derived.RangeFuncIn
import Derived.Laws.Sem
import Derived.Laws.Cells
import Derived.Laws.IdiomCopy
import Derived.Laws.Entries
/- AmBase: values, blocks and the heap of the abstract machine. -/
namespace Am
set_option linter.unusedVariables false
set_option linter.unusedSimpArgs false
open Go (IntKind)

/-- A finite map from numbers, as a binary trie. -/
inductive Tr (α : Type) where
  | e
  | n (l : Tr α) (v : Option α) (r : Tr α)
  deriving Inhabited

namespace Tr
variable {α : Type}
def get : Tr α → Nat → Option α
  | .e, _ => none
  | .n l v r, i => if i = 0 then v else if i % 2 = 1 then l.get (i / 2) else r.get (i / 2 - 1)

def left : Tr α → Tr α
  | .e => .e
  | .n l _ _ => l
def mid : Tr α → Option α
  | .e => none
  | .n _ v _ => v
def right : Tr α → Tr α
  | .e => .e
  | .n _ _ r => r

def put : Nat → Tr α → Nat → Option α → Tr α
  | 0, t, _, _ => t
  | f + 1, t, i, x =>
    if i = 0 then .n t.left x t.right
    else if i % 2 = 1 then .n (put f t.left (i / 2) x) t.mid t.right
    else .n t.left t.mid (put f t.right (i / 2 - 1) x)

def set (t : Tr α) (i : Nat) (x : Option α) : Tr α := put (i + 1) t i x

theorem get_parts (t : Tr α) (i : Nat) : t.get i = if i = 0 then t.mid else if i % 2 = 1 then t.left.get (i / 2) else t.right.get (i / 2 - 1) := by
  cases t with
  | e => simp [get, mid, left, right]
  | n l v r => rfl

theorem get_put : ∀ (f : Nat) (t : Tr α) (i : Nat) (x : Option α) (j : Nat), i < f → (put f t i x).get j = if j = i then x else t.get j := by
  intro f
  induction f with
  | zero => intro t i x j h; omega
  | succ f ih =>
    intro t i x j h
    rw [get_parts t j]
    unfold put
    by_cases h0 : i = 0
    · subst h0
      simp only [if_true, get]
      by_cases j0 : j = 0
      · rw [if_pos j0, if_pos j0]
      · rw [if_neg j0, if_neg j0, if_neg j0]
    · rw [if_neg h0]
      by_cases h1 : i % 2 = 1
      · rw [if_pos h1]
        simp only [get]
        by_cases j0 : j = 0
        · simp [j0, Ne.symm h0]
        · rw [if_neg j0]
          by_cases j1 : j % 2 = 1
          · rw [if_pos j1, ih _ _ _ _ (by omega)]
            by_cases e : j = i
            · subst e; simp
            · rw [if_neg e, if_neg (by omega), if_neg j0, if_pos j1]
          · rw [if_neg j1, if_neg (by intro e; subst e; exact j1 h1), if_neg j0, if_neg j1]
      · rw [if_neg h1]
        simp only [get]
        by_cases j0 : j = 0
        · simp [j0, Ne.symm h0]
        · rw [if_neg j0]
          by_cases j1 : j % 2 = 1
          · rw [if_pos j1, if_neg (by intro e; subst e; exact h1 j1), if_neg j0, if_pos j1]
          · rw [if_neg j1, ih _ _ _ _ (by omega)]
            by_cases e : j = i
            · subst e; simp
            · rw [if_neg e, if_neg (by omega), if_neg j0, if_neg j1]

theorem get_set (t : Tr α) (i : Nat) (x : Option α) (j : Nat) : (t.set i x).get j = if j = i then x else t.get j := get_put _ _ _ _ _ (Nat.lt_succ_self i)
theorem get_e (i : Nat) : (Tr.e : Tr α).get i = none := rfl
end Tr

/-- Who is called: a function of the program, or the yield of a loop (its block). -/
inductive Cal where
  | fn (f : Nat)
  | yl (l : Nat)
  deriving DecidableEq, Inhabited, Repr

/-- Values. A slice's 'ex': its capacity is just 'cap' (else: at least). -/
inductive V where
  | b (x : Bool)
  | i (k : IntKind) (n : Int)
  | s (x : List UInt8)
  | p (a : Option (Nat × Nat × Nat))
  | sl (a : Option (Nat × Nat)) (len cap : Nat) (ex : Bool)
  | m (r : Option Nat)
  | f (c : Cal) (caps : List V)
  | nf
  | ifc (t : Nat) (v : V)
  | nifc
  | agg (vs : List V)
  | tup (vs : List V)
  deriving Inhabited

abbrev V.un : V := .tup []

mutual
def V.beq : V → V → Bool
  | .b x, .b y => x == y
  | .i k n, .i k' n' => decide (k = k') && decide (n = n')
  | .s x, .s y => decide (x = y)
  | .p a, .p a' => decide (a = a')
  | .sl a l c e, .sl a' l' c' e' => decide (a = a') && decide (l = l') && decide (c = c') && (e == e')
  | .m r, .m r' => decide (r = r')
  | .f c vs, .f c' vs' => decide (c = c') && V.beqs vs vs'
  | .nf, .nf => true
  | .ifc t v, .ifc t' v' => decide (t = t') && V.beq v v'
  | .nifc, .nifc => true
  | .agg vs, .agg vs' => V.beqs vs vs'
  | .tup vs, .tup vs' => V.beqs vs vs'
  | _, _ => false
def V.beqs : List V → List V → Bool
  | [], [] => true
  | v :: vs, w :: ws => V.beq v w && V.beqs vs ws
  | _, _ => false
end

mutual
theorem V.beq_eq : ∀ (v w : V), V.beq v w = true → v = w
  | .b x, w, h => by cases w <;> simp_all [V.beq]
  | .i k n, w, h => by cases w <;> simp_all [V.beq]
  | .s x, w, h => by cases w <;> simp_all [V.beq]
  | .p a, w, h => by cases w <;> simp_all [V.beq]
  | .sl a l c e, w, h => by cases w <;> simp_all [V.beq]
  | .m r, w, h => by cases w <;> simp_all [V.beq]
  | .f c vs, w, h => by
    cases w <;> simp [V.beq] at h
    rw [h.1, V.beqs_eq vs _ h.2]
  | .nf, w, h => by cases w <;> simp_all [V.beq]
  | .ifc t v, w, h => by
    cases w <;> simp [V.beq] at h
    rw [h.1, V.beq_eq v _ h.2]
  | .nifc, w, h => by cases w <;> simp_all [V.beq]
  | .agg vs, w, h => by
    cases w <;> simp [V.beq] at h
    rw [V.beqs_eq vs _ h]
  | .tup vs, w, h => by
    cases w <;> simp [V.beq] at h
    rw [V.beqs_eq vs _ h]
theorem V.beqs_eq : ∀ (vs ws : List V), V.beqs vs ws = true → vs = ws
  | [], [], _ => rfl
  | [], _ :: _, h => by simp [V.beqs] at h
  | _ :: _, [], h => by simp [V.beqs] at h
  | v :: vs, w :: ws, h => by
    simp [V.beqs] at h
    rw [V.beq_eq v w h.1, V.beqs_eq vs ws h.2]
end

mutual
theorem V.beq_refl : ∀ (v : V), V.beq v v = true
  | .b x => by simp [V.beq]
  | .i k n => by simp [V.beq]
  | .s x => by simp [V.beq]
  | .p a => by simp [V.beq]
  | .sl a l c e => by simp [V.beq]
  | .m r => by simp [V.beq]
  | .f c vs => by simp [V.beq, V.beqs_refl vs]
  | .nf => rfl
  | .ifc t v => by simp [V.beq, V.beq_refl v]
  | .nifc => rfl
  | .agg vs => by simp [V.beq, V.beqs_refl vs]
  | .tup vs => by simp [V.beq, V.beqs_refl vs]
theorem V.beqs_refl : ∀ (vs : List V), V.beqs vs vs = true
  | [] => rfl
  | v :: vs => by simp [V.beqs, V.beq_refl v, V.beqs_refl vs]
end
attribute [simp] V.beq_refl V.beqs_refl

end Am

/- AmCode: the abstract machine: code, heap, what each operation does, the evaluator. -/
namespace Am
set_option linter.unusedVariables false
set_option linter.unusedSimpArgs false
open Go (IntKind BinOp UnOp)

inductive AOpd where
  | t (n : Nat)
  | c (v : V)
  | fn (f : Nat)
  deriving Inhabited

/-- Which kind a comparison with == is of. -/
inductive EqK where
  | bool | ptr | slice | map | func | iface
  deriving DecidableEq, Inhabited

inductive KeyK where
  | int | str | bool
  deriving DecidableEq, Inhabited
inductive LenK where
  | str | sl | map
  deriving DecidableEq, Inhabited

inductive AOp where
  | mv (x : AOpd)
  | pick (c a b : AOpd)
  | alloc (z : List V)
  | box (k : Nat) (x : AOpd)
  | build (z : List V) (parts : List (Nat × Nat × AOpd))
  | mkSl (z : List V) (by_ : Bool) (len : Nat) (parts : List (Nat × AOpd))
  | load (n : Nat) (agg : Bool) (x : AOpd)
  | store (n : Nat) (x v : AOpd)
  | nilCheck (x : AOpd)
  | bin (op : BinOp) (x y : AOpd)
  | eq (neg : Bool) (k : EqK) (x y : AOpd)
  | un (op : UnOp) (x : AOpd)
  | convI (k : IntKind) (x : AOpd)
  | convSS (x : AOpd)
  | convSB (x : AOpd)
  | convBS (x : AOpd)
  | convBB (x : AOpd)
  | convRS (x : AOpd)
  | mkI (t : Nat) (x : AOpd)
  | mkF (f : Nat) (caps : List AOpd)
  | mkM
  | mkS (z : List V) (by_ : Bool) (bytes : Nat) (len cap : AOpd)
  | sliceS (x : AOpd) (lo hi : Option AOpd)
  | sliceL (k : Nat) (x : AOpd) (lo hi mx : Option AOpd)
  | fa (off : Nat) (x : AOpd)
  | fld (off n : Nat) (agg : Bool) (x : AOpd)
  | ia (k : Nat) (x i : AOpd)
  | iaA (len k : Nat) (x i : AOpd)
  | ixS (x i : AOpd)
  | ixA (len k : Nat) (agg : Bool) (x i : AOpd)
  | lk (kk : KeyK) (z : V) (ok : Bool) (m k : AOpd)
  | mu (kk : KeyK) (m k v : AOpd)
  | rngS (x : AOpd)
  | nextS (it : AOpd)
  | ext (x : AOpd) (ix : Nat)
  | lenV (k : LenK) (x : AOpd)
  | capV (x : AOpd)
  | app (by_ : Bool) (k bytes : Nat) (s x : AOpd)
  | app0 (by_ : Bool) (z : List V) (bytes : Nat) (s n : AOpd)
  | copy (by_ : Bool) (k : Nat) (d s : AOpd)
  | clearS (by_ : Bool) (z : List V) (x : AOpd)
  | min (x : AOpd) (xs : List AOpd)
  | max (x : AOpd) (xs : List AOpd)
  | bad
  deriving Inhabited

/-- What an operation does to the heap: nothing, nor does it look · it looks · it makes a block · it changes what is there (a call may). -/
inductive OpK where
  | pure | read | alloc | eff
  deriving DecidableEq, Inhabited

def AOp.kind : AOp → OpK
  | .load .. | .sliceL .. | .ia .. | .convBS .. | .lk .. | .lenV .map _ => .read
  | .alloc .. | .box .. | .mkSl .. | .convSB .. | .mkM | .mkS .. | .rngS .. => .alloc
  | .store .. | .mu .. | .app .. | .app0 .. | .copy .. | .clearS .. | .nextS .. | .convBB .. => .eff
  | _ => .pure

inductive AAct where
  | op (x : AOp)
  | call (f : AOpd) (args : List AOpd)
  | inv (tbl : List (Nat × Nat)) (x : AOpd) (args : List AOpd)
  deriving Inhabited
def AAct.kind : AAct → OpK
  | .op x => x.kind
  | .call _ _ => .eff
  | .inv _ _ _ => .eff
/-- Which function stands for a type. -/
def inTbl : List (Nat × Nat) → Nat → Option Nat
  | [], _ => none
  | (t, f) :: r, ty => if t = ty then some f else inTbl r ty

/-- An operation in its place: 'look': so many of the heaps ahead of the last effects must read alike. -/
structure AOper where
  dst : Option Nat
  op : AAct
  guard : Option (Nat × Bool) := none
  look : Nat := 0
  deriving Inhabited

inductive Ex where
  | normal
  | exit (id : Nat)
  | ret
  deriving DecidableEq, Inhabited

inductive ACode where
  | skip
  | region (ops : List AOper)
  | regionD (ops : List AOper)
  | seq (a b : ACode)
  | cond (c : AOpd) (thn els : ACode)
  | block (id : Nat) (body : ACode)
  | loop (body : ACode)
  | rfn (f : AOpd) (params : List Nat) (assign body : ACode)
  | exit (id : Nat)
  | ret
  | bad
  deriving Inhabited

inductive ARes where
  | tmp (t : Nat)
  | cell (a : Nat) (n : Nat) (agg : Bool)
  deriving Inhabited

structure AFunc where
  ntmps : Nat
  results : List ARes
  code : ACode
  deriving Inhabited

/-! ### Temporaries -/
abbrev Tm := Tr V
def Tm.v (t : Tm) (n : Nat) : V := (t.get n).getD .un
def Tm.st (t : Tm) (d : Nat) (v : V) : Tm := Tr.set t d (some v)
def Tm.pd (t : Tm) (d : Option Nat) (v : V) : Tm :=
  match d with
  | some d => t.st d v
  | none => t
def Tm.args : List V → Nat → Tm
  | [], _ => .e
  | v :: vs, i => (Tm.args vs (i + 1)).st i v
def Tm.ev (t : Tm) : AOpd → V
  | .t n => t.v n
  | .c v => v
  | .fn f => .f (.fn f) []

theorem Tm.v_st (t : Tm) (d : Nat) (v : V) (n : Nat) : (t.st d v).v n = if n = d then v else t.v n := by
  unfold Tm.v Tm.st
  rw [Tr.get_set]
  split <;> rfl

/-! ### Memory -/
inductive LoopState where
  | ready | busy | done
  deriving DecidableEq, Inhabited

structure LoopSt where
  st : LoopState
  pend : Ex
  tm : Tm
  nt : Nat
  params : List Nat
  assign : ACode
  body : ACode
  deriving Inhabited

inductive Blk where
  | rows (k : Nat) (rs : List (List V)) (ro : Bool)
  | bytes (bs : List UInt8) (ro : Bool)
  | map (es : List (V × V))
  | iter (s : List UInt8) (pos : Nat)
  | loop (l : LoopSt)
  deriving Inhabited

def Blk.own : Blk → Bool
  | .rows _ _ ro => !ro
  | .bytes _ ro => !ro
  | _ => true

structure H where
  nx : Nat
  tr : Tr Blk
  deriving Inhabited

def H.get (h : H) (b : Nat) : Option Blk := h.tr.get b
def H.push (h : H) (x : Blk) : H := ⟨h.nx + 1, h.tr.set h.nx (some x)⟩
def H.set (h : H) (b : Nat) (x : Blk) : H := ⟨h.nx, h.tr.set b (some x)⟩
def H.kill (h : H) (b : Nat) : H := ⟨h.nx, h.tr.set b none⟩

theorem H.get_push (h : H) (x : Blk) (b : Nat) : (h.push x).get b = if b = h.nx then some x else h.get b := Tr.get_set _ _ _ _
theorem H.get_set (h : H) (b : Nat) (x : Blk) (b' : Nat) : (h.set b x).get b' = if b' = b then some x else h.get b' := Tr.get_set _ _ _ _
theorem H.get_kill (h : H) (b : Nat) (b' : Nat) : (h.kill b).get b' = if b' = b then none else h.get b' := Tr.get_set _ _ _ _

/-- A row of a block: the cells of one element. -/
def H.row (h : H) (b r : Nat) : Option (List V) :=
  match h.get b with
  | some (.rows _ rs _) => rs[r]?
  | some (.bytes bs _) => (bs[r]?).map fun c => [.i .u8 c.toNat]
  | _ => none
/-- n cells of it, from f on. -/
def H.rd (h : H) (b r f n : Nat) : Option (List V) :=
  (h.row b r).bind fun row => if f + n ≤ row.length then some ((row.drop f).take n) else none
def byteOf (v : V) : Option UInt8 :=
  match v with
  | .i .u8 n => if 0 ≤ n ∧ n < 256 then some (UInt8.ofNat n.toNat) else none
  | _ => none
def bytesOf : List V → Option (List UInt8)
  | [] => some []
  | v :: vs => (byteOf v).bind fun c => (bytesOf vs).bind fun cs => some (c :: cs)
/-- May stand in a cell. -/
def V.flat : V → Bool
  | .agg _ | .tup _ => false
  | _ => true
def H.wr (h : H) (b r f : Nat) (vs : List V) : Option H :=
  match h.get b with
  | some (.rows k rs false) =>
    (rs[r]?).bind fun row => if f + vs.length ≤ row.length ∧ vs.all V.flat then some (h.set b (.rows k (rs.set r (row.take f ++ vs ++ row.drop (f + vs.length))) false)) else none
  | some (.bytes bs false) =>
    if r < bs.length ∧ f = 0 then
      match vs with
      | [] => some h
      | [v] => (byteOf v).bind fun c => some (h.set b (.bytes (bs.set r c) false))
      | _ => none
    else none
  | _ => none
def V.cells : V → List V
  | .agg vs => vs
  | v => [v]

/-- The elements that a slice holds, by rows. -/
def H.rseg (h : H) (k : Nat) (a : Option (Nat × Nat)) (n : Nat) : Option (List (List V)) :=
  if n = 0 then some [] else
  match a with
  | none => none
  | some (b, r) => match h.get b with
    | some (.rows k' rs _) => if k' = k ∧ r + n ≤ rs.length then some ((rs.drop r).take n) else none
    | _ => none
def H.bseg (h : H) (a : Option (Nat × Nat)) (n : Nat) : Option (List UInt8) :=
  if n = 0 then some [] else
  match a with
  | none => none
  | some (b, r) => match h.get b with
    | some (.bytes bs _) => if r + n ≤ bs.length then some ((bs.drop r).take n) else none
    | _ => none

/-- Rows written over those that are there. -/
def splice {α : Type} (xs : List α) (i : Nat) (ys : List α) : List α := xs.take i ++ ys ++ xs.drop (i + ys.length)

def H.rput (h : H) (k : Nat) (a : Option (Nat × Nat)) (at_ : Nat) (rs : List (List V)) : Option H :=
  if rs = [] then some h else
  match a with
  | none => none
  | some (b, r) => match h.get b with
    | some (.rows k' old false) => if k' = k ∧ r + at_ + rs.length ≤ old.length then some (h.set b (.rows k' (splice old (r + at_) rs) false)) else none
    | _ => none
def H.bput (h : H) (a : Option (Nat × Nat)) (at_ : Nat) (bs : List UInt8) : Option H :=
  if bs = [] then some h else
  match a with
  | none => none
  | some (b, r) => match h.get b with
    | some (.bytes old false) => if r + at_ + bs.length ≤ old.length then some (h.set b (.bytes (splice old (r + at_) bs) false)) else none
    | _ => none
/-- The block may be gone: an append that may or may not have gone in place. -/
def H.loseR (h : H) (k : Nat) (a : Option (Nat × Nat)) (ex : Bool) : Option H :=
  if ex then some h else
  match a with
  | none => some h
  | some (b, _) => match h.get b with
    | some (.rows k' _ false) => if k' = k then some (h.kill b) else none
    | _ => none
def H.loseB (h : H) (a : Option (Nat × Nat)) (ex : Bool) : Option H :=
  if ex then some h else
  match a with
  | none => some h
  | some (b, _) => match h.get b with
    | some (.bytes _ false) => some (h.kill b)
    | _ => none

def roomOk (need bytes : Nat) : Bool := decide (0 < bytes) && decide (bytes ≤ 1048576) && decide (need * bytes ≤ 35184372088832)

def appRows (h : H) (k bytes : Nat) (a : Option (Nat × Nat)) (len cap : Nat) (ex : Bool) (new : List (List V)) : Option (V × H) :=
  if len + new.length ≤ cap then
    (h.rput k a len new).bind fun h' => some (.sl a (len + new.length) cap ex, h')
  else if roomOk (len + new.length) bytes then
    (h.rseg k a len).bind fun old => (h.loseR k a ex).bind fun h' =>
      some (.sl (some (h'.nx, 0)) (len + new.length) (len + new.length) false, h'.push (.rows k (old ++ new) false))
  else none
def appBytes (h : H) (bytes : Nat) (a : Option (Nat × Nat)) (len cap : Nat) (ex : Bool) (new : List UInt8) : Option (V × H) :=
  if len + new.length ≤ cap then
    (h.bput a len new).bind fun h' => some (.sl a (len + new.length) cap ex, h')
  else if roomOk (len + new.length) bytes then
    (h.bseg a len).bind fun old => (h.loseB a ex).bind fun h' =>
      some (.sl (some (h'.nx, 0)) (len + new.length) (len + new.length) false, h'.push (.bytes (old ++ new) false))
  else none

/-! ### Operations -/
def bitsOp (op : BinOp) (k : IntKind) (x y : Int) : Option Int :=
  let a := BitVec.ofInt k.bits x
  let b := BitVec.ofInt k.bits y
  match op with
  | .and => some (k.wrap (a &&& b).toNat)
  | .or => some (k.wrap (a ||| b).toNat)
  | .xor => some (k.wrap (a ^^^ b).toNat)
  | .andNot => some (k.wrap (a &&& ~~~b).toNat)
  | _ => none
def binI (op : BinOp) (k : IntKind) (x y : Int) : Option V :=
  match op with
  | .add => some (.i k (k.wrap (x + y)))
  | .sub => some (.i k (k.wrap (x - y)))
  | .mul => some (.i k (k.wrap (x * y)))
  | .quo => if y = 0 then none else some (.i k (k.wrap (x.tdiv y)))
  | .rem => if y = 0 then none else some (.i k (x.tmod y))
  | .and | .or | .xor | .andNot => (bitsOp op k x y).map (.i k)
  | .eql => some (.b (decide (x = y)))
  | .neq => some (.b (decide (x ≠ y)))
  | .lss => some (.b (decide (x < y)))
  | .leq => some (.b (decide (x ≤ y)))
  | .gtr => some (.b (decide (x > y)))
  | .geq => some (.b (decide (x ≥ y)))
  | _ => none
def shiftI (op : BinOp) (k : IntKind) (x y : Int) : Option V :=
  if y < 0 then none else
  match op with
  | .shl => some (.i k (k.wrap (x * 2 ^ (Nat.min y.toNat k.bits))))
  | .shr => some (.i k (x.fdiv (2 ^ (Nat.min y.toNat k.bits))))
  | _ => none
def binS (op : BinOp) (x y : List UInt8) : Option V :=
  match op with
  | .add => if x.length + y.length ≤ 140737488355328 then some (.s (x ++ y)) else none
  | .eql => some (.b (decide (x = y)))
  | .neq => some (.b (decide (x ≠ y)))
  | _ => none
def bin (op : BinOp) (x y : V) : Option V :=
  match x, y with
  | .i k a, .i k' b => match op with
    | .shl | .shr => shiftI op k a b
    | _ => if k = k' then binI op k a b else none
  | .s a, .s b => binS op a b
  | _, _ => none
def eqV (k : EqK) (x y : V) : Option Bool :=
  match k, x, y with
  | .bool, .b x, .b y => some (x == y)
  | .ptr, .p none, .p a => some a.isNone
  | .ptr, .p (some _), .p none => some false
  | .slice, .sl none _ _ _, .sl a _ _ _ => some a.isNone
  | .slice, .sl (some _) _ _ _, .sl none _ _ _ => some false
  | .map, .m none, .m a => some a.isNone
  | .map, .m (some _), .m none => some false
  | .func, .nf, .nf => some true
  | .func, .f _ _, .nf | .func, .nf, .f _ _ => some false
  | .iface, .ifc _ _, .nifc | .iface, .nifc, .ifc _ _ => some false
  | _, _, _ => none
def un (op : UnOp) (x : V) : Option V :=
  match op, x with
  | .neg, .i k n => some (.i k (k.wrap (0 - n)))
  | .not, .b x => some (.b !x)
  | .xor, .i k n => (bitsOp .xor k (if k.signed then -1 else k.max) n).map (.i k)
  | _, _ => none
def bound (x : V) (y : Nat) : Option Nat :=
  match x with
  | .i _ i => if 0 ≤ i ∧ i ≤ y then some i.toNat else none
  | _ => none
def boundO (x : Option V) (y d : Nat) : Option Nat :=
  match x with
  | some v => bound v y
  | none => some d
/-- Places filled, in order. -/
def fill (z : List V) : List (Nat × Nat × V) → Option (List V)
  | [] => some z
  | (off, n, v) :: rest => if v.cells.length = n ∧ off + n ≤ z.length then fill (splice z off v.cells) rest else none
def fillRows (k : Nat) (rs : List (List V)) : List (Nat × V) → Option (List (List V))
  | [] => some rs
  | (i, v) :: rest => if v.cells.length = k ∧ i < rs.length ∧ v.cells.all V.flat then fillRows k (rs.set i v.cells) rest else none
def aggOf (agg : Bool) (vs : List V) : Option V :=
  if agg then some (.agg vs) else match vs with
  | [v] => some v
  | _ => none
def keyEq (kk : KeyK) (k e : V) : Option Bool :=
  match kk, k, e with
  | .str, .s a, .s b => some (decide (a = b))
  | .int, .i k a, .i k' b => if k = k' then some (decide (a = b)) else none
  | .bool, .b a, .b b => some (a == b)
  | _, _, _ => none
def findKey (kk : KeyK) (k : V) : List (V × V) → Option (Option V)
  | [] => some none
  | e :: es => match keyEq kk k e.1 with
    | some true => some (some e.2)
    | some false => findKey kk k es
    | none => none
def putKey (kk : KeyK) (k v : V) : List (V × V) → Option (List (V × V))
  | [] => some [(k, v)]
  | e :: es => match keyEq kk k e.1 with
    | some true => some ((k, v) :: es)
    | some false => (putKey kk k v es).bind fun es' => some (e :: es')
    | none => none
/-- How wide a block's rows are. -/
def H.kOf (h : H) (b : Nat) : Option Nat :=
  match h.get b with
  | some (.rows k _ _) => some k
  | some (.bytes _ _) => some 1
  | _ => none
def minV (f : Int → Int → Int) : V → List V → Option V
  | v, [] => some v
  | .i k x, .i k' y :: vs => if k = k' then minV f (.i k (f x y)) vs else none
  | _, _ => none

/-- What an operation gives, and the heap behind it. -/
def AOp.ev (o : AOp) (ρ : AOpd → V) (h : H) : Option (V × H) :=
  match o with
  | .mv x => some (ρ x, h)
  | .pick c a b => match ρ c with
    | .b x => some (if x then ρ a else ρ b, h)
    | _ => none
  | .alloc z => if z = [] ∨ !z.all V.flat then none else some (.p (some (h.nx, 0, 0)), h.push (.rows z.length [z] false))
  | .box k x => if (ρ x).cells.length = k ∧ 0 < k ∧ (ρ x).cells.all V.flat then some (.p (some (h.nx, 0, 0)), h.push (.rows k [(ρ x).cells] false)) else none
  | .build z parts => (fill z (parts.map fun p => (p.1, p.2.1, ρ p.2.2))).bind fun cs => some (.agg cs, h)
  | .mkSl z by_ len parts =>
    (fillRows z.length (List.replicate len z) (parts.map fun p => (p.1, ρ p.2))).bind fun rs =>
      if by_ then (bytesOf rs.flatten).bind fun bs => if z.length = 1 then some (.sl (some (h.nx, 0)) len len true, h.push (.bytes bs false)) else none
      else if z = [] then none else some (.sl (some (h.nx, 0)) len len true, h.push (.rows z.length rs false))
  | .load n agg x => match ρ x with
    | .p (some (b, r, f)) => (h.rd b r f n).bind fun vs => (aggOf agg vs).bind fun v => some (v, h)
    | _ => none
  | .store n x v => match ρ x with
    | .p (some (b, r, f)) => if (ρ v).cells.length = n then (h.wr b r f (ρ v).cells).bind fun h' => some (.un, h') else none
    | _ => none
  | .nilCheck x => match ρ x with
    | .p (some a) => some (.p (some a), h)
    | .f c vs => some (.f c vs, h)
    | .ifc t v => some (.ifc t v, h)
    | _ => none
  | .bin op x y => (Am.bin op (ρ x) (ρ y)).bind fun v => some (v, h)
  | .eq neg k x y => (eqV k (ρ x) (ρ y)).bind fun r => some (.b (if neg then !r else r), h)
  | .un op x => (Am.un op (ρ x)).bind fun v => some (v, h)
  | .convI k x => match ρ x with
    | .i _ n => some (.i k (k.wrap n), h)
    | _ => none
  | .convSS x => match ρ x with
    | .s l => some (.s l, h)
    | _ => none
  | .convSB x => match ρ x with
    | .s l => some (.sl (some (h.nx, 0)) l.length l.length false, h.push (.bytes l false))
    | _ => none
  | .convBS x => match ρ x with
    | .sl a n _ _ => (h.bseg a n).bind fun bs => some (.s bs, h)
    | _ => none
  | .convBB x => match ρ x with
    | .sl (some (b, r)) n (c + 1) _ => match h.get b with
      | some (.bytes bs false) => some (.sl (some (b, r)) n (c + 1) false, h.set b (.bytes bs false))
      | _ => none
    | _ => none
  | .convRS x => match ρ x with
    | .i _ n => some (.s (Go.Utf8.encode n).data.toList, h)
    | _ => none
  | .mkI t x => some (.ifc t (ρ x), h)
  | .mkF f caps => some (.f (.fn f) (caps.map ρ), h)
  | .mkM => some (.m (some h.nx), h.push (.map []))
  | .mkS z by_ bytes len cap => match ρ len, ρ cap with
    | .i .i64 l, .i .i64 c =>
      if 0 ≤ l ∧ l ≤ c ∧ 0 < bytes ∧ bytes * c.toNat ≤ 140737488355328 ∧ z ≠ [] ∧ z.all V.flat then
        if by_ then (if z.length = 1 then some (.sl (some (h.nx, 0)) l.toNat c.toNat true, h.push (.bytes (List.replicate c.toNat 0) false)) else none)
        else some (.sl (some (h.nx, 0)) l.toNat c.toNat true, h.push (.rows z.length (List.replicate c.toNat z) false))
      else none
    | _, _ => none
  | .sliceS x lo hi => match ρ x with
    | .s l => (boundO (hi.map ρ) l.length l.length).bind fun e => (boundO (lo.map ρ) e 0).bind fun s => some (.s ((l.take e).drop s), h)
    | _ => none
  | .sliceL k x lo hi mx => match ρ x with
    | .sl a len cap ex =>
      (boundO (mx.map ρ) cap cap).bind fun m => (boundO (hi.map ρ) m len).bind fun e => (boundO (lo.map ρ) e 0).bind fun s =>
        match a with
        | none => some (.sl none (e - s) (m - s) (ex || mx.isSome), h)
        | some (b, r) => if s = 0 ∨ h.kOf b = some k then some (.sl (some (b, r + s)) (e - s) (m - s) (ex || mx.isSome), h) else none
    | _ => none
  | .fa off x => match ρ x with
    | .p (some (b, r, f)) => some (.p (some (b, r, f + off)), h)
    | _ => none
  | .fld off n agg x => match ρ x with
    | .agg cs => if off + n ≤ cs.length then (aggOf agg ((cs.drop off).take n)).bind fun v => some (v, h) else none
    | _ => none
  | .ia k x i => match ρ x, ρ i with
    | .sl (some (b, r)) len _ _, .i _ n => if 0 ≤ n ∧ n < len ∧ h.kOf b = some k then some (.p (some (b, r + n.toNat, 0)), h) else none
    | _, _ => none
  | .iaA len k x i => match ρ x, ρ i with
    | .p (some (b, r, f)), .i _ n => if 0 ≤ n ∧ n < len then some (.p (some (b, r, f + n.toNat * k)), h) else none
    | _, _ => none
  | .ixS x i => match ρ x, ρ i with
    | .s l, .i _ n => if 0 ≤ n then (l[n.toNat]?).bind fun c => some (.i .u8 c.toNat, h) else none
    | _, _ => none
  | .ixA len k agg x i => match ρ x, ρ i with
    | .agg cs, .i _ n => if 0 ≤ n ∧ n < len ∧ n.toNat * k + k ≤ cs.length then (aggOf agg ((cs.drop (n.toNat * k)).take k)).bind fun v => some (v, h) else none
    | _, _ => none
  | .lk kk z ok m k => match ρ m with
    | .m none => some (if ok then .tup [z, .b false] else z, h)
    | .m (some r) => match h.get r with
      | some (.map es) => (findKey kk (ρ k) es).bind fun e => match e with
        | some v => some (if ok then .tup [v, .b true] else v, h)
        | none => some (if ok then .tup [z, .b false] else z, h)
      | _ => none
    | _ => none
  | .mu kk m k v => match ρ m with
    | .m (some r) => match h.get r with
      | some (.map es) => (putKey kk (ρ k) (ρ v) es).bind fun es' => some (.un, h.set r (.map es'))
      | _ => none
    | _ => none
  | .rngS x => match ρ x with
    | .s l => some (.p (some (h.nx, 0, 0)), h.push (.iter l 0))
    | _ => none
  | .nextS it => match ρ it with
    | .p (some (b, 0, 0)) => match h.get b with
      | some (.iter l pos) =>
        if pos < l.length then
          let d := Go.Utf8.decode ⟨l.toArray⟩ pos
          some (.tup [.b true, .i .i64 pos, .i .i32 d.1], h.set b (.iter l (pos + d.2)))
        else some (.tup [.b false], h)
      | _ => none
    | _ => none
  | .ext x ix => match ρ x with
    | .tup vs => (vs[ix]?).bind fun v => some (v, h)
    | _ => none
  | .lenV k x => match k, ρ x with
    | .str, .s l => some (.i .i64 l.length, h)
    | .sl, .sl _ n _ _ => some (.i .i64 n, h)
    | .map, .m none => some (.i .i64 0, h)
    | .map, .m (some r) => match h.get r with
      | some (.map es) => some (.i .i64 es.length, h)
      | _ => none
    | _, _ => none
  | .capV x => match ρ x with
    | .sl _ _ c true => some (.i .i64 c, h)
    | _ => none
  | .app by_ k bytes s x => match ρ s, ρ x with
    | .sl a len cap ex, .sl a' n _ _ =>
      if by_ then (h.bseg a' n).bind fun new => appBytes h bytes a len cap ex new
      else (h.rseg k a' n).bind fun new => appRows h k bytes a len cap ex new
    | .sl a len cap ex, .s l => if by_ then appBytes h bytes a len cap ex l else none
    | _, _ => none
  | .app0 by_ z bytes s n => match ρ s, ρ n with
    | .sl a len cap ex, .i .i64 c =>
      if 0 ≤ c ∧ 0 < bytes ∧ c * bytes ≤ 140737488355328 ∧ z ≠ [] ∧ z.all V.flat then
        if by_ then (if z.length = 1 then appBytes h bytes a len cap ex (List.replicate c.toNat 0) else none)
        else appRows h z.length bytes a len cap ex (List.replicate c.toNat z)
      else none
    | _, _ => none
  | .copy by_ k d s => match ρ d, ρ s with
    | .sl a len _ _, .sl a' n _ _ =>
      if by_ then (h.bseg a' (Nat.min n len)).bind fun bs => (h.bput a 0 bs).bind fun h' => some (.i .i64 (Nat.min n len : Nat), h')
      else (h.rseg k a' (Nat.min n len)).bind fun rs => (h.rput k a 0 rs).bind fun h' => some (.i .i64 (Nat.min n len : Nat), h')
    | .sl a len _ _, .s l => if by_ then (h.bput a 0 (l.take (Nat.min l.length len))).bind fun h' => some (.i .i64 (Nat.min l.length len : Nat), h') else none
    | _, _ => none
  | .clearS by_ z x => match ρ x with
    | .sl a n _ _ =>
      if z = [] ∨ !z.all V.flat then none else
      if by_ then (if z.length = 1 then (h.bput a 0 (List.replicate n 0)).bind fun h' => some (.un, h') else none)
      else (h.rput z.length a 0 (List.replicate n z)).bind fun h' => some (.un, h')
    | _ => none
  | .min x xs => (minV (fun x y => if y < x then y else x) (ρ x) (xs.map ρ)).bind fun v => some (v, h)
  | .max x xs => (minV (fun x y => if y > x then y else x) (ρ x) (xs.map ρ)).bind fun v => some (v, h)
  | .bad => none

/-! ### Code -/
abbrev RunT := Cal → List V → H → Option (V × H)

def AOper.wanted (o : AOper) (t : Tm) : Bool :=
  match o.guard with
  | none => true
  | some (d, want) => match t.v d with
    | .b x => x == want
    | _ => false
def lookOk (o : AAct) (ρ : AOpd → V) (v : V) (hs : List H) : Bool :=
  match o with
  | .op o => hs.all fun g => match o.ev ρ g with
    | some (v', _) => V.beq v v'
    | none => false
  | _ => false

def evOp (R : RunT) (op : AAct) (t : Tm) (h : H) : Option (V × H) :=
  match op with
  | .call f args => match t.ev f with
    | .f c caps => R c (args.map t.ev ++ caps) h
    | _ => none
  | .inv tbl x args => match t.ev x with
    | .ifc ty v => match inTbl tbl ty with
      | some f => R (.fn f) (v :: args.map t.ev) h
      | none => none
    | _ => none
  | .op op => op.ev t.ev h

def evOps (R : RunT) : List AOper → Tm → H → Option (Tm × H)
  | [], t, h => some (t, h)
  | o :: os, t, h =>
    if o.wanted t then (evOp R o.op t h).bind fun r => evOps R os (t.pd o.dst r.1) r.2
    else evOps R os (t.pd o.dst .un) h

/-- The heaps behind the effects, one more. -/
def behind (o : AAct) (h : H) (hs : List H) : List H :=
  match o.kind with
  | .eff => h :: hs
  | _ => hs
/-- What a look must show: the same at each of the heaps at which it may be taken. -/
def looked (o : AOper) (ρ : AOpd → V) (v : V) (hs : List H) : Bool :=
  match o.op.kind with
  | .read => lookOk o.op ρ v (hs.take (o.look + 1))
  | _ => true

/-- One operation of a region that draws its order: what it gives, the heap behind it. -/
def stepD (R : RunT) (o : AOper) (t : Tm) (h : H) (hs : List H) : Option (V × H) :=
  if o.wanted t then (evOp R o.op t h).bind fun r => if looked o t.ev r.1 hs && Nat.ble h.nx r.2.nx then some r else none
  else some (.un, h)

/-- The operations of a region that draws its order, in one order that stands for all; 'hs': the heaps behind the effects so far, the last one first (at the end the first heap). -/
def evOpsD (R : RunT) : List AOper → Tm → H → List H → Option (Tm × H)
  | [], t, h, _ => some (t, h)
  | o :: os, t, h, hs => (stepD R o t h hs).bind fun r => evOpsD R os (t.pd o.dst r.1) r.2 (behind o.op r.2 hs)

/-- A loop: its rounds, at most so many. -/
def iter {σ ε : Type} (body : σ → Option (Option ε × σ)) : Nat → σ → Option (ε × σ)
  | 0, _ => none
  | n + 1, s => (body s).bind fun r => match r.1 with
    | none => iter body n r.2
    | some e => some (e, r.2)

abbrev IterT := ((Tm × H) → Option (Option Ex × (Tm × H))) → (Tm × H) → Option (Ex × (Tm × H))

/-- That the loop around (if any) is there. -/
def aroundOk (h : H) : Option Nat → Bool
  | none => true
  | some l => match h.get l with
    | some (.loop _) => true
    | _ => false

def evA (R : RunT) (I : IterT) (nt : Nat) (ar : Option Nat) : ACode → Tm → H → Option (Ex × (Tm × H))
  | .skip, t, h => some (.normal, t, h)
  | .region ops, t, h => (evOps R ops t h).bind fun r => some (.normal, r)
  | .regionD ops, t, h => (evOpsD R ops t h [h]).bind fun r => some (.normal, r)
  | .seq a b, t, h => (evA R I nt ar a t h).bind fun r => match r.1 with
    | .normal => evA R I nt ar b r.2.1 r.2.2
    | e => some (e, r.2)
  | .cond c x y, t, h => match t.ev c with
    | .b v => if v then evA R I nt ar x t h else evA R I nt ar y t h
    | _ => none
  | .block id c, t, h => (evA R I nt ar c t h).bind fun r => match r.1 with
    | .exit id' => if id' = id then some (.normal, r.2) else some (.exit id', r.2)
    | e => some (e, r.2)
  | .loop c, t, h => I (fun s => (evA R I nt ar c s.1 s.2).bind fun r => match r.1 with
    | .normal => some (none, r.2)
    | e => some (some e, r.2)) (t, h)
  | .rfn f params assign body, t, h => if aroundOk h ar then match t.ev f with
    | .f (.fn f) caps =>
      (R (.fn f) ([.f (.yl h.nx) []] ++ caps) (h.push (.loop { st := .ready, pend := .normal, tm := t, nt := nt, params := params, assign := assign, body := body }))).bind fun r =>
        match r.2.get h.nx with
        | some (.loop l) => if l.st = .busy then none else some (l.pend, t, r.2.kill h.nx)
        | _ => none
    | _ => none
    else none
  | .exit id, t, h => some (.exit id, t, h)
  | .ret, t, h => some (.ret, t, h)
  | .bad, _, _ => none

def evRes (t : Tm) (h : H) : List ARes → Option (List V)
  | [] => some []
  | .tmp d :: rs => (evRes t h rs).bind fun vs => some (t.v d :: vs)
  | .cell a n agg :: rs => match t.v a with
    | .p (some (b, r, f)) => (h.rd b r f n).bind fun vs => (aggOf agg vs).bind fun v => (evRes t h rs).bind fun ws => some (v :: ws)
    | _ => none
def resV : List V → V
  | [v] => v
  | vs => .tup vs

def evFn (R : RunT) (I : IterT) (af : AFunc) (args : List V) (h : H) : Option (V × H) :=
  if args.length ≤ af.ntmps then
    (evA R I af.ntmps none af.code (Tm.args args 0) h).bind fun r => match r.1 with
      | .exit _ => none
      | _ => (evRes r.2.1 r.2.2 af.results).bind fun vs => some (resV vs, r.2.2)
  else none

def stParams (t : Tm) : List Nat → List V → Tm
  | p :: ps, v :: vs => stParams (t.st p v) ps vs
  | _, _ => t

def evRound (R : RunT) (I : IterT) (l : Nat) (L : LoopSt) (args : List V) (h : H) : Option (V × H) :=
  if args.length = L.params.length then
    (evA R I L.nt (some l) L.assign (stParams L.tm L.params args) h).bind fun r => match r.1 with
      | .normal => match r.2.2.get l with
        | some (.loop L1) => if L1.st = .ready then
            (evA R I L.nt (some l) L.body r.2.1 (r.2.2.set l (.loop { L1 with st := .busy }))).bind fun q => match q.2.2.get l with
              | some (.loop L2) => some (.b (decide (q.1 = .normal)), q.2.2.set l (.loop { L2 with st := if q.1 = .normal then .ready else .done, pend := q.1 }))
              | _ => none
          else none
        | _ => none
      | _ => none
  else none

/-- The program of the machine, and what is taken for granted of some functions. -/
structure Prog where
  fn : Nat → Option AFunc
  ext : Nat → Option (List V → H → Option (V × H))

/-- That a function value that is a loop's yield is handed over first: what is called so runs code of its own. -/
def isYl : List V → Bool
  | .f (.yl _) _ :: _ => true
  | _ => false

def evCal (pr : Prog) (R : RunT) (I : IterT) : RunT
  | .fn f, args, h => match pr.ext f with
    | some g => if isYl args then none else g args h
    | none => match pr.fn f with
      | some af => evFn R I af args h
      | none => none
  | .yl l, args, h => match h.get l with
    | some (.loop L) => evRound R I l L args h
    | _ => none

def runN (pr : Prog) : Nat → RunT
  | 0, _, _, _ => none
  | n + 1, c, args, h => evCal pr (runN pr n) (fun b s => iter b n s) c args h

end Am

/- AmComp: from the model's code to the abstract machine's. -/
namespace Am
set_option linter.unusedVariables false
set_option linter.unusedSimpArgs false
open Go (IntKind BinOp UnOp Value Program TypeId TypeDesc Operand Oper Code Tmp)

def ofFlat : Value → Option V
  | .bool b => some (.b b)
  | .int k n => some (.i k n)
  | .string s => some (.s s.data.toList)
  | .pointer none => some (.p none)
  | .slice none 0 0 => some (.sl none 0 0 true)
  | .map none => some (.m none)
  | .nilFunc => some .nf
  | .nilIface => some .nifc
  | _ => none
def ofFlats : List Value → Option (List V)
  | [] => some []
  | v :: vs => (ofFlat v).bind fun x => (ofFlats vs).bind fun xs => some (x :: xs)
def ofValue : Value → Option V
  | .agg cs => (ofFlats cs.toList).map .agg
  | v => ofFlat v

def opd : Operand → Option AOpd
  | .tmp t => some (.t t)
  | .const v => (ofValue v).map .c
  | .func f => some (.fn f)
  | .global g => if g < 4096 then some (.c (.p (some (g, 0, 0)))) else none
def opds : List Operand → Option (List AOpd)
  | [] => some []
  | x :: xs => (opd x).bind fun a => (opds xs).bind fun as => some (a :: as)
def opdO : Option Operand → Option (Option AOpd)
  | none => some none
  | some x => (opd x).map some

def szOf (P : Program) (t : TypeId) : Option Nat := (P.info? t).map (·.size)
def bytesOfT (P : Program) (t : TypeId) : Option Nat := (P.info? t).map (·.bytes)
def aggT (P : Program) (t : TypeId) : Option Bool :=
  match P.underlying t with
  | some (.struct _) | some (.array _ _) => some true
  | some _ => some false
  | none => none
def zeroT (P : Program) (t : TypeId) : Option (List V) := ((P.info? t).bind (·.zero)).bind fun v => ofFlats v.cells.toList
def zeroV (P : Program) (t : TypeId) : Option V := ((P.info? t).bind (·.zero)).bind ofValue
def isByte (P : Program) (t : TypeId) : Option Bool :=
  match P.underlying t with
  | some (.int .u8) => some true
  | some _ => some false
  | none => none
def isIntT (P : Program) (t : TypeId) : Option Bool :=
  match P.underlying t with
  | some (.int _) => some true
  | some _ => some false
  | none => none
def eqKind : TypeDesc → Option EqK
  | .bool => some .bool
  | .pointer _ => some .ptr
  | .slice _ => some .slice
  | .map _ _ => some .map
  | .func _ _ _ => some .func
  | .interface _ => some .iface
  | _ => none
def keyKind (P : Program) (t : TypeId) : Option KeyK :=
  match P.underlying t with
  | some (.int _) => some .int
  | some .string => some .str
  | some .bool => some .bool
  | _ => none

def partsS (P : Program) (fs : Array Go.Field) : List (Nat × Operand) → Option (List (Nat × Nat × AOpd))
  | [] => some []
  | (i, x) :: rest => (fs[i]?).bind fun f => (szOf P f.type).bind fun n => (opd x).bind fun a => (partsS P fs rest).bind fun ps => some ((f.offset, n, a) :: ps)
def partsA (k : Nat) : List (Nat × Operand) → Option (List (Nat × Nat × AOpd))
  | [] => some []
  | (i, x) :: rest => (opd x).bind fun a => (partsA k rest).bind fun ps => some ((i * k, k, a) :: ps)
def partsL : List (Nat × Operand) → Option (List (Nat × AOpd))
  | [] => some []
  | (i, x) :: rest => (opd x).bind fun a => (partsL rest).bind fun ps => some ((i, a) :: ps)

def compBin (P : Program) (op : BinOp) (t : TypeId) (x y : AOpd) : Option AOp :=
  match op with
  | .eql | .neq => match P.underlying t with
    | some (.int _) | some .string => some (.bin op x y)
    | some d => (eqKind d).bind fun k => some (.eq (op == .neq) k x y)
    | none => none
  | _ => some (.bin op x y)

def compConv (P : Program) (src dst : TypeId) (x : AOpd) : Option AOp :=
  match P.underlying src, P.underlying dst with
  | some (.int _), some (.int k) => some (.convI k x)
  | some .string, some .string => some (.convSS x)
  | some (.int _), some .string => some (.convRS x)
  | some .string, some (.slice e) => if isByte P e = some true then some (.convSB x) else none
  | some (.slice e), some .string => if isByte P e = some true then some (.convBS x) else none
  | some (.slice _), some (.slice e) => if src = dst ∧ isByte P e = some true then some (.convBB x) else none
  | _, _ => none

def compBuiltin (P : Program) (b : Go.Builtin) (ts : List TypeId) (args : List AOpd) : Option AOp :=
  match b, ts, args with
  | .len, t :: _, x :: _ => match P.underlying t with
    | some .string => some (.lenV .str x)
    | some (.slice _) => some (.lenV .sl x)
    | some (.map _ _) => some (.lenV .map x)
    | _ => none
  | .cap, t :: _, x :: _ => match P.underlying t with
    | some (.slice _) => some (.capV x)
    | _ => none
  | .append, t :: u :: _, [s, x] => match P.underlying t with
    | some (.slice e) => (szOf P e).bind fun k => (bytesOfT P e).bind fun bytes => (isByte P e).bind fun by_ => (isIntT P u).bind fun zs => (zeroT P e).bind fun z =>
        if z.length ≠ k ∨ k = 0 ∨ (by_ = true ∧ V.beqs z [.i .u8 0] = false) then none else if zs then some (.app0 by_ z bytes s x) else some (.app by_ k bytes s x)
    | _ => none
  | .copy, t :: _, [d, s] => match P.underlying t with
    | some (.slice e) => (szOf P e).bind fun k => (isByte P e).bind fun by_ => if by_ = true ∧ k ≠ 1 then none else some (.copy by_ k d s)
    | _ => none
  | .clear, t :: _, [x] => match P.underlying t with
    | some (.slice e) => (isByte P e).bind fun by_ => (zeroT P e).bind fun z => if by_ = true ∧ V.beqs z [.i .u8 0] = false then none else some (.clearS by_ z x)
    | _ => none
  | .min, _, x :: xs => some (.min x xs)
  | .max, _, x :: xs => some (.max x xs)
  | _, _, _ => none

def compOp (P : Program) (o : Oper) : Option AOp :=
  match o.op with
  | .move x | .assign x => (opd x).map .mv
  | .pick c a b => (opd c).bind fun c => (opd a).bind fun a => (opd b).bind fun b => some (.pick c a b)
  | .alloc e => (zeroT P e).map .alloc
  | .box e x => (szOf P e).bind fun k => (opd x).map (.box k)
  | .build t ps => match P.underlying t with
    | some (.struct fs) => (zeroT P t).bind fun z => (partsS P fs ps.toList).bind fun ps => if fs.all fun f => (szOf P f.type).isSome then some (.build z ps) else none
    | some (.array _ e) => (zeroT P t).bind fun z => (szOf P e).bind fun k => (partsA k ps.toList).map (.build z)
    | _ => none
  | .buildSlice t len ps => match P.underlying t with
    | some (.slice e) => (szOf P e).bind fun k => (zeroT P e).bind fun z => (isByte P e).bind fun by_ => (partsL ps.toList).bind fun ps =>
        if z.length = k ∧ len * k ≤ 16777216 then some (.mkSl z by_ len ps) else none
    | _ => none
  | .load t x => (szOf P t).bind fun n => (aggT P t).bind fun g => (opd x).bind fun x => if g = true ∨ n = 1 then some (.load n g x) else none
  | .store t x v => (szOf P t).bind fun n => (opd x).bind fun x => (opd v).map (.store n x)
  | .nilCheck x => (opd x).map .nilCheck
  | .binOp op t x y _ => (opd x).bind fun x => (opd y).bind fun y => compBin P op t x y
  | .unOp op _ x => (opd x).map (.un op)
  | .convert src dst x => (opd x).bind (compConv P src dst)
  | .makeInterface t x => match P.underlying t with
    | some (.interface _) => none
    | some _ => (opd x).map (.mkI t)
    | none => none
  | .makeFunc (.func f) first caps => if first.isEmpty then (opds caps.toList).map (.mkF f) else none
  | .makeMap _ none => some .mkM
  | .makeSlice t l c => match P.underlying t with
    | some (.slice e) => (zeroT P e).bind fun z => (szOf P e).bind fun k => (isByte P e).bind fun by_ => (bytesOfT P e).bind fun bytes => (opd l).bind fun l => (opd c).bind fun c =>
        if z.length = k ∧ (by_ = false ∨ V.beqs z [.i .u8 0] = true) then some (.mkS z by_ bytes l c) else none
    | _ => none
  | .slice t x lo hi mx => (opd x).bind fun x => (opdO lo).bind fun lo => (opdO hi).bind fun hi => (opdO mx).bind fun mx => match P.underlying t with
    | some .string => if mx.isNone then some (.sliceS x lo hi) else none
    | some (.slice e) => (szOf P e).bind fun k => if mx.isSome ∧ hi.isNone then none else some (.sliceL k x lo hi mx)
    | _ => none
  | .fieldAddr t x i => match P.underlying t with
    | some (.struct fs) => (fs[i]?).bind fun f => (szOf P f.type).bind fun n => if n = 0 then none else (opd x).map (.fa f.offset)
    | _ => none
  | .field t x i => match P.underlying t with
    | some (.struct fs) => (fs[i]?).bind fun f => (szOf P f.type).bind fun n => (aggT P f.type).bind fun g => if g = true ∨ n = 1 then (opd x).map (.fld f.offset n g) else none
    | _ => none
  | .indexAddr t x i => (opd x).bind fun x => (opd i).bind fun i => match P.underlying t with
    | some (.slice e) => (szOf P e).bind fun k => some (.ia k x i)
    | some (.array len e) => (szOf P e).bind fun k => some (.iaA len k x i)
    | _ => none
  | .index t x i => (opd x).bind fun x => (opd i).bind fun i => match P.underlying t with
    | some .string => some (.ixS x i)
    | some (.array len e) => (szOf P e).bind fun k => (aggT P e).bind fun g => if g = true ∨ k = 1 then some (.ixA len k g x i) else none
    | _ => none
  | .lookup t x i ok => (opd x).bind fun x => (opd i).bind fun i => match P.underlying t with
    | some (.map k e) => (keyKind P k).bind fun kk => (zeroV P e).bind fun z => some (.lk kk z ok x i)
    | _ => none
  | .mapUpdate t m k v | .insert t m k v => (opd m).bind fun m => (opd k).bind fun k' => (opd v).bind fun v => match P.underlying t with
    | some (.map key _) => (keyKind P key).bind fun kk => some (.mu kk m k' v)
    | _ => none
  | .range t x => (opd x).bind fun x => match P.underlying t with
    | some .string => some (.rngS x)
    | _ => none
  | .next it true => (opd it).map .nextS
  | .extract x i => (opd x).map (.ext · i)
  | .call c => match c.callee with
    | .value _ => none
    | .builtin b => (opds c.args.toList).bind (compBuiltin P b c.argTypes.toList)
    | .invoke _ _ => none
  | _ => none
end Am

/- AmRel: how the abstract machine's values and heap lie in the model's world. -/
namespace Am
set_option linter.unusedVariables false
set_option linter.unusedSimpArgs false
open Go (IntKind BinOp UnOp Value Program TypeId TypeDesc Operand Oper Code Tmp World Addr Obj)

structure Loc where
  cb : Nat
  sh : Nat
  k : Nat
  top : Nat
  deriving Inhabited
abbrev Emb := Nat → Option Loc
/-- What the relation hangs on: which code is which; where the program's variables lie. -/
structure Cx where
  code : Nat → Code → ACode → Prop
  gl : Nat → Option Loc
instance : CoeFun Cx (fun _ => Nat → Code → ACode → Prop) := ⟨Cx.code⟩
def Emb.le (i j : Emb) : Prop := ∀ b l, i b = some l → j b = some l
theorem Emb.le_refl (i : Emb) : i.le i := fun _ _ h => h
theorem Emb.le_trans {i j k : Emb} (h : i.le j) (h' : j.le k) : i.le k := fun _ _ e => h' _ _ (h _ _ e)
def Emb.add (i : Emb) (b : Nat) (l : Loc) : Emb := fun c => if c = b then some l else i c
theorem Emb.le_add {i : Emb} {b : Nat} (l : Loc) (h : i b = none) : i.le (i.add b l) := by
  intro c m e
  unfold Emb.add
  by_cases hc : c = b
  · subst hc; rw [h] at e; cases e
  · rw [if_neg hc]; exact e
theorem Emb.add_same (i : Emb) (b : Nat) (l : Loc) : i.add b l b = some l := by simp [Emb.add]

mutual
inductive VR (e : Emb) : V → Value → Prop
  | b (x : Bool) : VR e (.b x) (.bool x)
  | i (k : IntKind) (n : Int) : VR e (.i k n) (.int k n)
  | s (s : ByteArray) : VR e (.s s.data.toList) (.string s)
  | p0 : VR e (.p none) (.pointer none)
  | p (b r f : Nat) (l : Loc) (h : e b = some l) : VR e (.p (some (b, r, f))) (.pointer (some ⟨l.cb, l.sh + r * l.k + f, none⟩))
  | sl0 (ex : Bool) : VR e (.sl none 0 0 ex) (.slice none 0 0)
  | sl (b r len cap c : Nat) (ex : Bool) (l : Loc) (a : Addr) (h : e b = some l) (h1 : len ≤ cap) (h2 : cap ≤ c) (h3 : ex = true → c = cap)
      (h4 : c ≠ 0 → a = ⟨l.cb, l.sh + r * l.k, none⟩ ∧ r + c ≤ l.top) : VR e (.sl (some (b, r)) len cap ex) (.slice (some a) len c)
  | m0 : VR e (.m none) (.map none)
  | m (b : Nat) (l : Loc) (h : e b = some l) : VR e (.m (some b)) (.map (some l.cb))
  | fn (f : Nat) (vs : List V) (ws : Array Value) (h : VRL e vs ws.toList) : VR e (.f (.fn f) vs) (.func (.func f) #[] ws)
  | yl (b : Nat) (l : Loc) (h : e b = some l) : VR e (.f (.yl b) []) (.func (.yield l.cb) #[] #[])
  | nf : VR e .nf .nilFunc
  | ifc (t : Nat) (v : V) (w : Value) (h : VR e v w) : VR e (.ifc t v) (.iface t w)
  | nifc : VR e .nifc .nilIface
  | agg (vs : List V) (ws : Array Value) (h : VRL e vs ws.toList) : VR e (.agg vs) (.agg ws)
  | tup (vs : List V) (ws : Array Value) (h : VRL e vs ws.toList) : VR e (.tup vs) (.tuple ws)
inductive VRL (e : Emb) : List V → List Value → Prop
  | nil : VRL e [] []
  | cons (v : V) (w : Value) (vs : List V) (ws : List Value) (h : VR e v w) (hs : VRL e vs ws) : VRL e (v :: vs) (w :: ws)
end

mutual
theorem VR.mono {e e' : Emb} (he : e.le e') : ∀ {v : V} {w : Value}, VR e v w → VR e' v w
  | _, _, .b x => .b x
  | _, _, .i k n => .i k n
  | _, _, .s s => .s s
  | _, _, .p0 => .p0
  | _, _, .p b r f l h => .p b r f l (he _ _ h)
  | _, _, .sl0 ex => .sl0 ex
  | _, _, .sl b r len cap c ex l a h h1 h2 h3 h4 => .sl b r len cap c ex l a (he _ _ h) h1 h2 h3 h4
  | _, _, .m0 => .m0
  | _, _, .m b l h => .m b l (he _ _ h)
  | _, _, .fn f vs ws h => .fn f vs ws (VRL.mono he h)
  | _, _, .yl b l h => .yl b l (he _ _ h)
  | _, _, .nf => .nf
  | _, _, .ifc t v w h => .ifc t v w (VR.mono he h)
  | _, _, .nifc => .nifc
  | _, _, .agg vs ws h => .agg vs ws (VRL.mono he h)
  | _, _, .tup vs ws h => .tup vs ws (VRL.mono he h)
theorem VRL.mono {e e' : Emb} (he : e.le e') : ∀ {vs : List V} {ws : List Value}, VRL e vs ws → VRL e' vs ws
  | _, _, .nil => .nil
  | _, _, .cons v w vs ws h hs => .cons v w vs ws (VR.mono he h) (VRL.mono he hs)
end

theorem VRL.length {e : Emb} : ∀ {vs : List V} {ws : List Value}, VRL e vs ws → vs.length = ws.length
  | _, _, .nil => rfl
  | _, _, .cons _ _ _ _ _ hs => by simp [VRL.length hs]
theorem VRL.get {e : Emb} : ∀ {vs : List V} {ws : List Value}, VRL e vs ws → ∀ (j : Nat) (v : V), vs[j]? = some v → ∃ w, ws[j]? = some w ∧ VR e v w
  | _, _, .nil, j, v, hj => by simp at hj
  | _, _, .cons v0 w0 vs ws h hs, j, v, hj => by
    cases j with
    | zero => simp at hj; subst hj; exact ⟨w0, by simp, h⟩
    | succ j => simp at hj; obtain ⟨w, h1, h2⟩ := hs.get j v hj; exact ⟨w, by simpa using h1, h2⟩
theorem VRL.of_get {e : Emb} : ∀ {vs : List V} {ws : List Value}, vs.length = ws.length → (∀ (j : Nat) (v : V) (w : Value), vs[j]? = some v → ws[j]? = some w → VR e v w) → VRL e vs ws
  | [], [], _, _ => .nil
  | [], _ :: _, h, _ => by simp at h
  | _ :: _, [], h, _ => by simp at h
  | v :: vs, w :: ws, h, hj => .cons v w vs ws (hj 0 v w (by simp) (by simp)) (VRL.of_get (by simpa using h) fun j v w h1 h2 => hj (j + 1) v w (by simpa using h1) (by simpa using h2))
theorem VRL.append {e : Emb} {xs ys : List V} {us ws : List Value} (h : VRL e xs us) (h' : VRL e ys ws) : VRL e (xs ++ ys) (us ++ ws) := by
  induction xs generalizing us with
  | nil => cases h; exact h'
  | cons x xs ih => cases h with | cons _ u _ us hx hs => exact .cons _ _ _ _ hx (ih hs)
theorem VRL.take {e : Emb} {xs : List V} {us : List Value} (h : VRL e xs us) (n : Nat) : VRL e (xs.take n) (us.take n) := by
  induction n generalizing xs us with
  | zero => exact .nil
  | succ n ih => cases h with
    | nil => exact .nil
    | cons _ _ _ _ hx hs => exact .cons _ _ _ _ hx (ih hs)
theorem VRL.drop {e : Emb} {xs : List V} {us : List Value} (h : VRL e xs us) (n : Nat) : VRL e (xs.drop n) (us.drop n) := by
  induction n generalizing xs us with
  | zero => exact h
  | succ n ih => cases h with
    | nil => exact .nil
    | cons _ _ _ _ hx hs => exact ih hs
theorem VR.cells {e : Emb} {v : V} {w : Value} (h : VR e v w) : VRL e v.cells w.cells.toList := by
  cases h with
  | agg vs ws h => exact h
  | _ => exact .cons _ _ _ _ (by constructor <;> assumption) .nil
theorem VR.flat {e : Emb} {v : V} {w : Value} (h : VR e v w) (hf : v.flat = true) : (∀ c, w ≠ .agg c) ∧ (∀ c, w ≠ .tuple c) := by
  cases h <;> simp_all [V.flat]

/-! ### Blocks -/
def cellAt (w : World) (cb off : Nat) : Option Value := w.cell? ⟨cb, off, none⟩
def cold (w : World) (cb off : Nat) : Prop := w.frozen? ⟨cb, off, none⟩ = false

def LoopR (e : Emb) (L : LoopSt) (r : Go.Loop) : Prop :=
  (match L.st with | .ready => r.state = .ready | .busy => r.state = .busy | .done => r.state = .done) ∧
  (match L.pend with | .normal => r.pending = none | .ret => r.pending = some .ret | .exit id => r.pending = some (.exit id)) ∧
  r.tmps.size = L.nt ∧ (∀ n, VR e (L.tm.v n) (r.tmps.getD n Go.undef)) ∧ L.params = r.params.toList ∧ (∀ p ∈ L.params, p < L.nt)

/-- A value in a cell. -/
def CR (e : Emb) (v : V) (u : Value) : Prop := VR e v u ∧ v.flat = true
theorem CR.mono {e e' : Emb} {v : V} {u : Value} (h : CR e v u) (he : e.le e') : CR e' v u := ⟨h.1.mono he, h.2⟩
theorem CR.one {e : Emb} {v : V} {u : Value} (h : CR e v u) : u.oneCell' = true := by
  obtain ⟨h, hf⟩ := h
  cases h <;> simp_all [V.flat, Go.Value.oneCell']

/-- All the places of a block: those beyond what is known, too. -/
def Room (w : World) (l : Loc) : Prop := ∀ q, q < l.top * l.k → (cellAt w l.cb (l.sh + q)).isSome = true ∧ cold w l.cb (l.sh + q)
/-- None of its places is frozen, but perhaps one behind the last. -/
def Mild (w : World) (l : Loc) : Prop := ∃ cs el lo hi, w.heap[l.cb]? = some (.cells cs el (lo, hi)) ∧ (lo = hi ∨ cs.size ≤ lo)

def BlkR (C : Cx) (e : Emb) (x : Blk) (l : Loc) (w : World) : Prop :=
  match x with
  | .rows k rs ro => (l.k = k ∧ 0 < k ∧ (ro = false → Room w l ∧ Mild w l)) ∧ ∀ (r : Nat) (row : List V), rs[r]? = some row → row.length = k ∧
      ∀ (j : Nat) (v : V), row[j]? = some v → ∃ u, cellAt w l.cb (l.sh + r * k + j) = some u ∧ CR e v u ∧ (ro = false → cold w l.cb (l.sh + r * k + j))
  | .bytes bs ro => (l.k = 1 ∧ (ro = false → Room w l ∧ Mild w l)) ∧ ∀ (r : Nat) (c : UInt8), bs[r]? = some c → cellAt w l.cb (l.sh + r) = some (.int .u8 c.toNat) ∧ (ro = false → cold w l.cb (l.sh + r))
  | .map es => ∃ ces clock, w.heap[l.cb]? = some (.map ces clock) ∧ VRL e (es.map (·.1)) (ces.toList.map (·.key)) ∧ VRL e (es.map (·.2)) (ces.toList.map (·.val))
  | .iter s pos => l.k = 1 ∧ l.sh = 0 ∧ ∃ bs : ByteArray, w.heap[l.cb]? = some (.stringIter bs pos) ∧ bs.data.toList = s
  | .loop L => ∃ r, w.heap[l.cb]? = some (.loop r) ∧ LoopR e L r ∧ C L.nt r.assign L.assign ∧ C L.nt r.body L.body

variable {C : Cx}

theorem BlkR.mono {e e' : Emb} {x : Blk} {l : Loc} {w : World} (he : e.le e') (h : BlkR C e x l w) : BlkR C e' x l w := by
  cases x with
  | rows k rs ro =>
    obtain ⟨h1, h3⟩ := h
    exact ⟨h1, fun r row hr => ⟨(h3 r row hr).1, fun j v hj => let ⟨u, a, b, c⟩ := (h3 r row hr).2 j v hj; ⟨u, a, b.mono he, c⟩⟩⟩
  | bytes bs ro => exact h
  | map es => obtain ⟨ces, clock, a, b, c⟩ := h; exact ⟨ces, clock, a, b.mono he, c.mono he⟩
  | iter s pos => exact h
  | loop L => obtain ⟨r, a, ⟨b1, b2, b3, b4, b5⟩, c⟩ := h; exact ⟨r, a, ⟨b1, b2, b3, fun n => (b4 n).mono he, b5⟩, c⟩

/-- A block's reading hangs on its own object alone. -/
theorem BlkR.of_heap {e : Emb} {x : Blk} {l : Loc} {w w' : World} (hh : w'.heap[l.cb]? = w.heap[l.cb]?) (h : BlkR C e x l w) : BlkR C e x l w' := by
  have hc : ∀ off, cellAt w' l.cb off = cellAt w l.cb off := fun off => by simp only [cellAt, World.cell?, hh]
  have hf : ∀ off, cold w l.cb off → cold w' l.cb off := fun off hx => by simpa only [cold, World.frozen?, hh] using hx
  have hm : Room w l ∧ Mild w l → Room w' l ∧ Mild w' l := fun ⟨hr, cs, el, lo, hi, h1, h2⟩ => ⟨fun q hq => ⟨by rw [hc]; exact (hr q hq).1, hf _ (hr q hq).2⟩, cs, el, lo, hi, by rw [hh]; exact h1, h2⟩
  cases x with
  | rows k rs ro =>
    obtain ⟨⟨h1, h2, hroom⟩, h3⟩ := h
    refine ⟨⟨h1, h2, fun hro => hm (hroom hro)⟩, fun r row hr => ⟨(h3 r row hr).1, fun j v hj => ?_⟩⟩
    obtain ⟨u, a, b, c⟩ := (h3 r row hr).2 j v hj
    exact ⟨u, by rw [hc]; exact a, b, fun hro => hf _ (c hro)⟩
  | bytes bs ro =>
    obtain ⟨⟨h1, hroom⟩, h2⟩ := h
    exact ⟨⟨h1, fun hro => hm (hroom hro)⟩, fun r c hr => ⟨by rw [hc]; exact (h2 r c hr).1, fun hro => hf _ ((h2 r c hr).2 hro)⟩⟩
  | map es => obtain ⟨ces, clock, a, b⟩ := h; exact ⟨ces, clock, by rw [hh]; exact a, b⟩
  | iter s pos => obtain ⟨h1, h2, bs, a, b⟩ := h; exact ⟨h1, h2, bs, by rw [hh]; exact a, b⟩
  | loop L => obtain ⟨r, a, b⟩ := h; exact ⟨r, by rw [hh]; exact a, b⟩

/-! ### The heap -/
/-- A table that is only read (one row, more than one cell) is all that its object holds. -/
def Wid (x : Blk) (l : Loc) (w : World) : Prop := ∀ k row, x = .rows k [row] true → 1 < k → ∃ cs el fz, w.heap[l.cb]? = some (.cells cs el fz) ∧ cs.size = k
/-- The program's variables that the heap holds are only read. -/
def TabR (C : Cx) (h : H) (w : World) : Prop := ∀ b l x, C.gl b = some l → h.get b = some x → x.own = false ∧ Wid x l w
theorem TabR.of {C : Cx} {h h' : H} {w w' : World} (t : TabR C h w) (hk : ∀ b l x, C.gl b = some l → h'.get b = some x → h.get b = some x ∧ w'.heap[l.cb]? = w.heap[l.cb]?) : TabR C h' w' := by
  intro b l x hl hx
  obtain ⟨h1, h2⟩ := hk b l x hl hx
  obtain ⟨h3, h4⟩ := t b l x hl h1
  exact ⟨h3, fun k row hr hk => by rw [h2]; exact h4 k row hr hk⟩
theorem TabR.no {C : Cx} {h : H} {w : World} (hn : ∀ b x, h.get b = some x → False) : TabR C h w := fun b _ x _ hb => (hn b x hb).elim
structure Sim (C : Cx) (B : Nat) (e : Emb) (h : H) (w : World) : Prop where
  blk : ∀ b x, h.get b = some x → ∃ l, e b = some l ∧ BlkR C e x l w ∧ l.cb < w.heap.size ∧ (x.own = true → B ≤ l.cb)
  inj : ∀ b b' x x' l l', h.get b = some x → h.get b' = some x' → x.own = true → b ≠ b' → e b = some l → e b' = some l' → l.cb ≠ l'.cb
  dom : ∀ b l, e b = some l → b < h.nx
  low : B ≤ w.heap.size
  gl : ∀ b l, C.gl b = some l → e b = some l
  tab : TabR C h w

/-- The blocks of the world that are the machine's own. -/
def Owns (e : Emb) (h : H) (c : Nat) : Prop := ∃ b x l, h.get b = some x ∧ x.own = true ∧ e b = some l ∧ l.cb = c

/-- The blocks of the world that the machine knows. -/
def Img (e : Emb) (h : H) (c : Nat) : Prop := ∃ b x l, h.get b = some x ∧ e b = some l ∧ l.cb = c

/-- What no operation of the machine turns. -/
structure Sky (w w' : World) : Prop where
  os : w'.os = w.os
  tape : w'.tape = w.tape
  output : w'.output = w.output
theorem Sky.trans {a b c : World} (h : Sky a b) (k : Sky b c) : Sky a c := ⟨k.os.trans h.os, k.tape.trans h.tape, k.output.trans h.output⟩

theorem laid_heap {w w' : World} {g : Array Obj} (h : w' = { w with heap := g, drawn := w'.drawn }) : w'.heap = g := congrArg World.heap h
theorem laid_sky {w w' : World} {g : Array Obj} (h : w' = { w with heap := g, drawn := w'.drawn }) : Sky w w' := by
  rw [h]; exact ⟨rfl, rfl, rfl⟩

structure Stp (C : Cx) (B : Nat) (e : Emb) (h : H) (w : World) (e' : Emb) (h' : H) (w' : World) : Prop where
  le : e.le e'
  sim : Sim C B e' h' w'
  own : ∀ c, Owns e' h' c → w.heap.size ≤ c ∨ Owns e h c
  img : ∀ c, Img e' h' c → w.heap.size ≤ c ∨ Img e h c
  keep : ∀ c, c < w.heap.size → ¬ Owns e h c → w'.heap[c]? = w.heap[c]?
  grow : w.heap.size ≤ w'.heap.size
  nx : h.nx ≤ h'.nx
  sky : Sky w w'

variable {B : Nat} {e e' e'' : Emb} {h h' h'' : H} {w w' w'' : World}

theorem Stp.refl (s : Sim C B e h w) : Stp C B e h w e h w :=
  ⟨Emb.le_refl _, s, fun _ o => .inr o, fun _ o => .inr o, fun _ _ _ => rfl, Nat.le_refl _, Nat.le_refl _, ⟨rfl, rfl, rfl⟩⟩
theorem Stp.trans (s : Stp C B e h w e' h' w') (t : Stp C B e' h' w' e'' h'' w'') : Stp C B e h w e'' h'' w'' := by
  refine ⟨Emb.le_trans s.le t.le, t.sim, fun c o => ?_, fun c o => ?_, fun c hc ho => ?_, Nat.le_trans s.grow t.grow, Nat.le_trans s.nx t.nx, s.sky.trans t.sky⟩
  · rcases t.own c o with h1 | h1
    · exact .inl (Nat.le_trans s.grow h1)
    · exact s.own c h1
  · rcases t.img c o with h1 | h1
    · exact .inl (Nat.le_trans s.grow h1)
    · exact s.img c h1
  · rw [t.keep c (Nat.lt_of_lt_of_le hc s.grow) (fun o => ?_), s.keep c hc ho]
    rcases s.own c o with h1 | h1
    · omega
    · exact ho h1

theorem Sim.lt (s : Sim C B e h w) {b : Nat} {x : Blk} (hb : h.get b = some x) : b < h.nx := let ⟨_, hl, _⟩ := s.blk b x hb; s.dom b _ hl
theorem Sim.gl_lt (s : Sim C B e h w) {b : Nat} {l : Loc} (hl : C.gl b = some l) : b < h.nx := s.dom b l (s.gl b l hl)
theorem Sim.gl_at (s : Sim C B e h w) {b : Nat} {l : Loc} {x : Blk} (hl : C.gl b = some l) (hb : h.get b = some x) : l.cb < w.heap.size := by
  obtain ⟨l', hl', _, hlt, _⟩ := s.blk b x hb
  rw [s.gl b l hl] at hl'; cases hl'
  exact hlt
theorem Sim.gl_ne (s : Sim C B e h w) {b b' : Nat} {l l' : Loc} {x y : Blk} (hl : C.gl b = some l) (hb : h.get b = some x) (hb' : h.get b' = some y) (hy : y.own = true) (hl' : e b' = some l') : l.cb ≠ l'.cb ∧ b ≠ b' := by
  have hn : b' ≠ b := by
    rintro rfl
    rw [hb] at hb'; cases hb'
    rw [(s.tab _ _ _ hl hb).1] at hy; cases hy
  exact ⟨fun hc => s.inj b' b y x l' l hb' hb hy hn hl' (s.gl b l hl) hc.symm, hn.symm⟩
theorem Sim.fresh (s : Sim C B e h w) : e h.nx = none := by
  cases hl : e h.nx with
  | none => rfl
  | some l => exact absurd (s.dom _ _ hl) (Nat.lt_irrefl _)
/-- A world that reads the same at every block that matters. -/
theorem Sim.of_heap (s : Sim C B e h w) (hk : ∀ b x l, h.get b = some x → e b = some l → w'.heap[l.cb]? = w.heap[l.cb]?) (hg : w.heap.size ≤ w'.heap.size) : Sim C B e h w' := by
  refine ⟨fun b x hb => ?_, s.inj, s.dom, Nat.le_trans s.low hg, s.gl, s.tab.of fun b l x hl hb => ⟨hb, hk b x l hb (s.gl b l hl)⟩⟩
  obtain ⟨l, hl, hr, hlt, ho⟩ := s.blk b x hb
  exact ⟨l, hl, hr.of_heap (hk b x l hb hl), Nat.lt_of_lt_of_le hlt hg, ho⟩

/-- A world with more blocks behind. -/
theorem Stp.more (s : Sim C B e h w) (hk : ∀ c, c < w.heap.size → w'.heap[c]? = w.heap[c]?) (hg : w.heap.size ≤ w'.heap.size) (hs : Sky w w' := by exact ⟨rfl, rfl, rfl⟩) : Stp C B e h w e h w' := by
  refine ⟨Emb.le_refl _, s.of_heap (fun b x l hb hl => ?_) hg, fun _ o => .inr o, fun _ o => .inr o, fun c hc _ => hk c hc, hg, Nat.le_refl _, hs⟩
  obtain ⟨l', hl', _, hlt, _⟩ := s.blk b x hb
  rw [hl] at hl'; cases hl'
  exact hk _ hlt

/-- A new block, at a place of its own. -/
theorem Stp.push (s : Sim C B e h w) (x : Blk) (l : Loc) (hnew : w.heap.size ≤ l.cb) (hk : ∀ c, c < w.heap.size → w'.heap[c]? = w.heap[c]?) (hg : l.cb < w'.heap.size)
    (hx : BlkR C (e.add h.nx l) x l w') (hs : Sky w w' := by exact ⟨rfl, rfl, rfl⟩) : Stp C B e h w (e.add h.nx l) (h.push x) w' := by
  have hle : e.le (e.add h.nx l) := Emb.le_add l s.fresh
  have old : ∀ b y m, h.get b = some y → e.add h.nx l b = some m → e b = some m := by
    intro b y m hb hm
    have hne : b ≠ h.nx := Nat.ne_of_lt (s.lt hb)
    simpa [Emb.add, hne] using hm
  have gp : ∀ b y, (h.push x).get b = some y → (b = h.nx ∧ y = x) ∨ (b ≠ h.nx ∧ h.get b = some y) := by
    intro b y hb
    rw [H.get_push] at hb
    by_cases hbn : b = h.nx
    · rw [if_pos hbn] at hb; exact .inl ⟨hbn, (Option.some.inj hb).symm⟩
    · rw [if_neg hbn] at hb; exact .inr ⟨hbn, hb⟩
  refine ⟨hle, ⟨fun b y hb => ?_, ?_, ?_, by have := s.low; omega, fun b l hb => hle _ _ (s.gl b l hb), s.tab.of fun b l' y hl' hb => ?_⟩, fun c ho => ?_, fun c ho => ?_, fun c hc _ => hk c hc, by omega, Nat.le_succ _, hs⟩
  · rcases gp b y hb with ⟨rfl, rfl⟩ | ⟨hne, hb'⟩
    · exact ⟨l, Emb.add_same _ _ _, hx, hg, fun _ => Nat.le_trans s.low hnew⟩
    · obtain ⟨m, hm, hr, hlt, ho⟩ := s.blk b y hb'
      exact ⟨m, hle _ _ hm, (hr.of_heap (hk _ hlt)).mono hle, by omega, ho⟩
  · intro b b' y y' m m' hb hb' ho hne hm hm'
    rcases gp b y hb with ⟨rfl, rfl⟩ | ⟨hne1, hb1⟩ <;> rcases gp b' y' hb' with ⟨rfl, rfl⟩ | ⟨hne2, hb2⟩
    · exact absurd rfl hne
    · rw [Emb.add_same] at hm; cases hm
      obtain ⟨m2, hm2, _, hlt, _⟩ := s.blk b' y' hb2
      have := old b' y' m' hb2 hm'
      rw [hm2] at this; cases this
      omega
    · rw [Emb.add_same] at hm'; cases hm'
      obtain ⟨m2, hm2, _, hlt, _⟩ := s.blk b y hb1
      have := old b y m hb1 hm
      rw [hm2] at this; cases this
      omega
    · exact s.inj b b' y y' m m' hb1 hb2 ho hne (old _ _ _ hb1 hm) (old _ _ _ hb2 hm')
  · intro b m hm
    unfold Emb.add at hm
    show b < h.nx + 1
    by_cases hbn : b = h.nx
    · omega
    · rw [if_neg hbn] at hm; have := s.dom b m hm; omega
  · rcases gp b y hb with ⟨rfl, rfl⟩ | ⟨hne, hb'⟩
    · exact absurd (s.gl_lt hl') (Nat.lt_irrefl _)
    · exact ⟨hb', hk _ (s.gl_at hl' hb')⟩
  · obtain ⟨b, y, m, hb, hy, hm, rfl⟩ := ho
    rcases gp b y hb with ⟨rfl, rfl⟩ | ⟨hne, hb'⟩
    · rw [Emb.add_same] at hm; cases hm; exact .inl hnew
    · exact .inr ⟨b, y, m, hb', hy, old _ _ _ hb' hm, rfl⟩
  · obtain ⟨b, y, m, hb, hm, rfl⟩ := ho
    rcases gp b y hb with ⟨rfl, rfl⟩ | ⟨hne, hb'⟩
    · rw [Emb.add_same] at hm; cases hm; exact .inl hnew
    · exact .inr ⟨b, y, m, hb', old _ _ _ hb' hm, rfl⟩

/-- A block of one's own that is written. -/
theorem Stp.set (s : Sim C B e h w) {b : Nat} {x x' : Blk} {l : Loc} (hb : h.get b = some x) (hown : x.own = true) (hl : e b = some l)
    (hk : ∀ c, c ≠ l.cb → w'.heap[c]? = w.heap[c]?) (hg : w'.heap.size = w.heap.size) (hx : BlkR C e x' l w') (hs : Sky w w' := by exact ⟨rfl, rfl, rfl⟩) : Stp C B e h w e (h.set b x') w' := by
  have gs : ∀ c y, (h.set b x').get c = some y → (c = b ∧ y = x') ∨ (c ≠ b ∧ h.get c = some y) := by
    intro c y hc
    rw [H.get_set] at hc
    by_cases hcb : c = b
    · rw [if_pos hcb] at hc; exact .inl ⟨hcb, (Option.some.inj hc).symm⟩
    · rw [if_neg hcb] at hc; exact .inr ⟨hcb, hc⟩
  obtain ⟨l0, hl0, hr0, hlt0, ho0⟩ := s.blk b x hb
  rw [hl] at hl0; cases hl0
  refine ⟨Emb.le_refl _, ⟨fun c y hc => ?_, ?_, s.dom, by rw [hg]; exact s.low, s.gl, s.tab.of fun c m y hm hc => ?_⟩, fun c ho => ?_, fun c ho => ?_, fun c hc ho => ?_, Nat.le_of_eq hg.symm, Nat.le_refl _, hs⟩
  · rcases gs c y hc with ⟨rfl, rfl⟩ | ⟨hne, hc'⟩
    · exact ⟨l, hl, hx, by omega, fun _ => ho0 hown⟩
    · obtain ⟨m, hm, hr, hlt, ho⟩ := s.blk c y hc'
      have hcb : m.cb ≠ l.cb := (s.inj b c x y l m hb hc' hown (Ne.symm hne) hl hm).symm
      exact ⟨m, hm, hr.of_heap (hk _ hcb), by omega, ho⟩
  · intro c c' y y' m m' hc hc' ho hne hm hm'
    rcases gs c y hc with ⟨rfl, rfl⟩ | ⟨hne1, hc1⟩ <;> rcases gs c' y' hc' with ⟨rfl, rfl⟩ | ⟨hne2, hc2⟩
    · exact absurd rfl hne
    · exact s.inj _ _ _ _ _ _ hb hc2 hown hne hm hm'
    · exact (s.inj _ _ _ _ _ _ hb hc1 hown (Ne.symm hne) hm' hm).symm
    · exact s.inj _ _ _ _ _ _ hc1 hc2 ho hne hm hm'
  · have hcb : c ≠ b := by
      rintro rfl
      have := s.gl c m hm
      rw [H.get_set, if_pos rfl] at hc
      rw [(s.tab _ _ _ hm hb).1] at hown; cases hown
    rcases gs c y hc with ⟨rfl, rfl⟩ | ⟨hne, hc1⟩
    · exact absurd rfl hcb
    · exact ⟨hc1, hk _ (s.gl_ne hm hc1 hb hown hl).1⟩
  · obtain ⟨c', y, m, hc', hy, hm, rfl⟩ := ho
    rcases gs c' y hc' with ⟨rfl, rfl⟩ | ⟨hne, hc1⟩
    · exact .inr ⟨_, x, m, hb, hown, hm, rfl⟩
    · exact .inr ⟨c', y, m, hc1, hy, hm, rfl⟩
  · obtain ⟨c', y, m, hc', hm, rfl⟩ := ho
    rcases gs c' y hc' with ⟨rfl, rfl⟩ | ⟨hne, hc1⟩
    · exact .inr ⟨_, x, m, hb, hm, rfl⟩
    · exact .inr ⟨c', y, m, hc1, hm, rfl⟩
  · refine hk c fun hcl => ho ⟨b, x, l, hb, hown, hl, hcl.symm⟩

theorem Sim.kill (s : Sim C B e h w) (b : Nat) : Sim C B e (h.kill b) w := by
  have gk : ∀ c y, (h.kill b).get c = some y → h.get c = some y := by
    intro c y hc
    rw [H.get_kill] at hc
    by_cases hcb : c = b
    · rw [if_pos hcb] at hc; cases hc
    · rw [if_neg hcb] at hc; exact hc
  exact ⟨fun c y hc => s.blk c y (gk c y hc), fun c c' y y' m m' hc hc' => s.inj c c' y y' m m' (gk _ _ hc) (gk _ _ hc'), s.dom, s.low, s.gl, s.tab.of fun c _ y _ hc => ⟨gk c y hc, rfl⟩⟩
theorem Stp.kill (s : Sim C B e h w) (b : Nat) : Stp C B e h w e (h.kill b) w := by
  have gk : ∀ c y, (h.kill b).get c = some y → h.get c = some y := by
    intro c y hc
    rw [H.get_kill] at hc
    by_cases hcb : c = b
    · rw [if_pos hcb] at hc; cases hc
    · rw [if_neg hcb] at hc; exact hc
  refine ⟨Emb.le_refl _, s.kill b, fun c ho => .inr ?_, fun c ho => .inr ?_, fun _ _ _ => rfl, Nat.le_refl _, Nat.le_refl _, ⟨rfl, rfl, rfl⟩⟩
  · obtain ⟨c', y, m, hc', hy, hm, rfl⟩ := ho
    exact ⟨c', y, m, gk _ _ hc', hy, hm, rfl⟩
  · obtain ⟨c', y, m, hc', hm, rfl⟩ := ho
    exact ⟨c', y, m, gk _ _ hc', hm, rfl⟩

end Am

/- AmMem: reading and writing: the abstract machine's primitives against the model's. -/
namespace Am
set_option linter.unusedVariables false
set_option linter.unusedSimpArgs false
open Go (IntKind BinOp UnOp Value Program TypeId TypeDesc Operand Oper Code Tmp World Addr Obj)

variable {P : Program} {C : Cx} {B : Nat} {e e' : Emb} {h h' : H} {w w' : World}

theorem add_mk (cb o j : Nat) : (⟨cb, o, none⟩ : Addr).add j = ⟨cb, o + j, none⟩ := by unfold Addr.add; split <;> simp_all

theorem V.flat_one {v : V} {u : Value} (hv : VR e v u) (hf : v.flat = true) : u.oneCell' = true := by
  cases hv <;> simp_all [V.flat, Go.Value.oneCell']

/-- Cells that lie one behind the other. -/
def Lies (w : World) (cb o : Nat) (us : List Value) : Prop := ∀ (j : Nat) (u : Value), us[j]? = some u → w.cell? ⟨cb, o + j, none⟩ = some u
def Free (w : World) (cb o n : Nat) : Prop := ∀ j, j < n → (w.cell? ⟨cb, o + j, none⟩).isSome = true ∧ w.frozen? ⟨cb, o + j, none⟩ = false

theorem Lies.load {cb o : Nat} {us : List Value} (hl : Lies w cb o us) : (Go.loadCells ⟨cb, o, none⟩ us.length).run P w = .ok us.toArray w :=
  Go.run_loadCells_list w _ us fun j v hj => by rw [add_mk]; exact hl j v hj

theorem row_sound (s : Sim C B e h w) {b r : Nat} {row : List V} {l : Loc} (hl : e b = some l) (hr : h.row b r = some row) :
    row.length = l.k ∧ ∃ us, VRL e row us ∧ Lies w l.cb (l.sh + r * l.k) us := by
  unfold H.row at hr
  split at hr
  · rename_i k rs ro hb
    obtain ⟨l', hl', hB, _, _⟩ := s.blk b _ hb
    rw [hl] at hl'; cases hl'
    obtain ⟨⟨hk, _, _⟩, hrows⟩ := hB
    obtain ⟨hlen, hcells⟩ := hrows r row hr
    refine ⟨by rw [hlen, hk], ?_⟩
    have hsome : ∀ j, j < row.length → ∃ u, cellAt w l.cb (l.sh + r * k + j) = some u := fun j hj => by
      obtain ⟨u, hu, _⟩ := hcells j row[j] (List.getElem?_eq_getElem hj)
      exact ⟨u, hu⟩
    refine ⟨(List.range row.length).map fun j => (cellAt w l.cb (l.sh + r * k + j)).getD Go.undef, VRL.of_get (by simp) fun j v u hv hu => ?_, fun j u hu => ?_⟩
    · obtain ⟨u', hu', hr', _⟩ := hcells j v hv
      have hj : j < row.length := (List.getElem?_eq_some_iff.1 hv).1
      simp [hj] at hu
      rw [hu'] at hu
      simp at hu
      rw [← hu]; exact hr'.1
    · by_cases hj : j < row.length
      · simp [hj] at hu
        obtain ⟨u', hu'⟩ := hsome j hj
        rw [hu'] at hu
        simp at hu
        subst hu
        rw [hk]
        exact hu'
      · simp [hj] at hu
  · rename_i bs ro hb
    obtain ⟨l', hl', hB, _, _⟩ := s.blk b _ hb
    rw [hl] at hl'; cases hl'
    obtain ⟨⟨hk, _⟩, hbs⟩ := hB
    cases hc : bs[r]? with
    | none => rw [hc] at hr; simp at hr
    | some c =>
      rw [hc] at hr; simp at hr; subst hr
      refine ⟨by rw [hk]; rfl, [.int .u8 c.toNat], .cons _ _ _ _ (.i _ _) .nil, fun j u hj => ?_⟩
      cases j with
      | zero => simp at hj; subst hj; rw [hk, Nat.mul_one]; exact (hbs r c hc).1
      | succ j => simp at hj
  · simp at hr

theorem rd_sound (s : Sim C B e h w) {b r f n : Nat} {vs : List V} {l : Loc} (hl : e b = some l) (hr : h.rd b r f n = some vs) :
    ∃ us, us.length = n ∧ VRL e vs us ∧ Lies w l.cb (l.sh + r * l.k + f) us := by
  unfold H.rd at hr
  cases hrow : h.row b r with
  | none => rw [hrow] at hr; simp at hr
  | some row =>
    rw [hrow] at hr
    simp only [Option.bind_some] at hr
    split at hr
    · rename_i hle
      simp at hr
      obtain ⟨_, us, hus, hlies⟩ := row_sound s hl hrow
      have hlen := hus.length
      refine ⟨(us.drop f).take n, by simp; omega, by rw [← hr]; exact (hus.drop f).take n, fun j u hj => ?_⟩
      by_cases hjn : j < n
      · rw [List.getElem?_take_of_lt hjn, List.getElem?_drop] at hj
        have := hlies (f + j) u hj
        rw [Nat.add_assoc]; exact this
      · rw [List.getElem?_take, if_neg hjn] at hj; simp at hj
    · simp at hr

/-! ### Writing -/
theorem setCells_heap (cb : Nat) : ∀ (us : List Value) (o : Nat) (w : World) (c : Nat), c ≠ cb → (w.setCells cb o us).heap[c]? = w.heap[c]?
  | [], _, _, _, _ => rfl
  | u :: us, o, w, c, hc => by
    rw [World.setCells, setCells_heap cb us _ _ c hc]
    simp only [World.setCell, Array.getElem?_modify]
    rw [if_neg (fun hh => hc hh.symm)]
theorem setCells_size (cb : Nat) : ∀ (us : List Value) (o : Nat) (w : World), (w.setCells cb o us).heap.size = w.heap.size
  | [], _, _ => rfl
  | u :: us, o, w => by
    rw [World.setCells, setCells_size cb us]
    simp [World.setCell]
theorem setCells_sky (cb : Nat) : ∀ (us : List Value) (o : Nat) (w : World), Sky w (w.setCells cb o us)
  | [], _, _ => ⟨rfl, rfl, rfl⟩
  | u :: us, o, w => by
    rw [World.setCells]
    exact Sky.trans (b := w.setCell ⟨cb, o, none⟩ u) ⟨rfl, rfl, rfl⟩ (setCells_sky cb us _ _)
theorem Free.store {cb o : Nat} {us : List Value} (hf : Free w cb o us.length) (h1 : ∀ u ∈ us, u.oneCell' = true) : (Go.storeCells ⟨cb, o, none⟩ us).run P w = .ok () (w.setCells cb o us) :=
  Go.run_storeCells_cells cb o us 0 w (fun j hj => (hf j hj).1) (fun j hj => (hf j hj).2) h1

theorem cell_in {cb o : Nat} {us : List Value} (hf : Free w cb o us.length) (j : Nat) (u : Value) (hj : us[j]? = some u) : cellAt (w.setCells cb o us) cb (o + j) = some u := by
  obtain ⟨hlt, rfl⟩ := List.getElem?_eq_some_iff.1 hj
  exact World.cell?_setCells_in cb us o w (fun j hj => (hf j hj).1) j hlt
theorem cell_out {cb o : Nat} {us : List Value} (q : Nat) (hq : q < o ∨ o + us.length ≤ q) : cellAt (w.setCells cb o us) cb q = cellAt w cb q :=
  World.cell?_setCells_out cb us o w ⟨cb, q, none⟩ fun _ _ => hq
theorem cold_set {cb o : Nat} {us : List Value} (q : Nat) (hq : cold w cb q) : cold (w.setCells cb o us) cb q := by
  unfold cold at *
  rw [World.frozen?_setCells]; exact hq

theorem setCells_some (cb : Nat) : ∀ (us : List Value) (o : Nat) (w : World) (a : Addr), (w.cell? a).isSome = true → ((w.setCells cb o us).cell? a).isSome = true
  | [], _, _, _, h => h
  | u :: us, o, w, a, h => by
    rw [World.setCells]
    refine setCells_some cb us _ _ _ ?_
    by_cases ha : (⟨cb, o, none⟩ : Addr) = a
    · obtain ⟨v, hv⟩ := Option.isSome_iff_exists.1 h
      subst ha
      rw [World.cell?_setCell_same _ _ _ hv]; rfl
    · rw [World.cell?_setCell_other _ _ _ _ ha]; exact h
theorem mild_one {l : Loc} {a : Addr} {u : Value} (hr : Mild w l) : Mild (w.setCell a u) l := by
  obtain ⟨cs, el, lo, hi, h1, h2⟩ := hr
  unfold Mild World.setCell
  simp only [Array.getElem?_modify]
  by_cases ha : a.block = l.cb
  · rw [if_pos ha, h1]
    refine ⟨_, el, lo, hi, rfl, ?_⟩
    split
    · exact h2
    · simpa using h2
  · rw [if_neg ha]; exact ⟨cs, el, lo, hi, h1, h2⟩
theorem mild_set {l : Loc} (cb : Nat) : ∀ (us : List Value) (o : Nat) (w : World), Mild w l → Mild (w.setCells cb o us) l
  | [], _, _, h => h
  | u :: us, o, w, h => by rw [World.setCells]; exact mild_set cb us _ _ (mild_one h)
theorem room_set {l : Loc} {cb o : Nat} {us : List Value} (hr : Room w l ∧ Mild w l) : Room (w.setCells cb o us) l ∧ Mild (w.setCells cb o us) l := ⟨fun q hq =>
  ⟨setCells_some _ _ _ _ _ (hr.1 q hq).1, by unfold cold; rw [World.frozen?_setCells]; exact (hr.1 q hq).2⟩, mild_set _ _ _ _ hr.2⟩

/-- Rows of k cells as one list of cells. -/
structure VRR (e : Emb) (k : Nat) (rs : List (List V)) (us : List Value) : Prop where
  len : us.length = rs.length * k
  row : ∀ (r : Nat) (row : List V), rs[r]? = some row → row.length = k ∧ ∀ (j : Nat) (v : V), row[j]? = some v → ∃ u, us[r * k + j]? = some u ∧ CR e v u

theorem VRR.one {k : Nat} {row : List V} {us : List Value} (h : VRL e row us) (hk : row.length = k) (hf : row.all V.flat = true) : VRR e k [row] us := by
  refine ⟨by rw [← h.length, hk]; simp, fun r row' hr => ?_⟩
  cases r with
  | zero => simp at hr; subst hr; exact ⟨hk, fun j v hj => by
      obtain ⟨u, h1, h2⟩ := h.get j v hj
      exact ⟨u, by simpa using h1, h2, List.all_eq_true.1 hf _ (List.mem_of_getElem? hj)⟩⟩
  | succ r => simp at hr

theorem splice_get {α : Type} (xs ys : List α) (i q : Nat) (hi : i + ys.length ≤ xs.length) :
    (splice xs i ys)[q]? = if q < i then xs[q]? else if q < i + ys.length then ys[q - i]? else xs[q]? := by
  unfold splice
  rw [List.append_assoc, List.getElem?_append]
  have h1 : (xs.take i).length = i := by simp; omega
  rw [h1]
  by_cases hq : q < i
  · rw [if_pos hq, if_pos hq, List.getElem?_take_of_lt hq]
  · rw [if_neg hq, if_neg hq, List.getElem?_append]
    by_cases hq2 : q < i + ys.length
    · rw [if_pos hq2, if_pos (by omega)]
    · rw [if_neg hq2, if_neg (by omega), List.getElem?_drop]
      congr 1; omega
theorem splice_length {α : Type} (xs ys : List α) (i : Nat) (hi : i + ys.length ≤ xs.length) : (splice xs i ys).length = xs.length := by
  unfold splice; simp; omega

/-- A block of rows, some of which are written. -/
theorem rows_put {l : Loc} {k i : Nat} {old new : List (List V)} {us : List Value} (hB : BlkR C e (.rows k old false) l w) (hr : VRR e k new us) (hi : i + new.length ≤ old.length) :
    Free w l.cb (l.sh + i * k) us.length ∧ BlkR C e (.rows k (splice old i new) false) l (w.setCells l.cb (l.sh + i * k) us) := by
  obtain ⟨⟨hk, hk0, hroom⟩, hrows⟩ := hB
  have hcell : ∀ q, i * k ≤ q → q < i * k + us.length → (w.cell? ⟨l.cb, l.sh + q, none⟩).isSome = true ∧ w.frozen? ⟨l.cb, l.sh + q, none⟩ = false := by
    intro q h1 h2
    have hq : q / k < old.length := by
      rw [hr.len, ← Nat.add_mul] at h2
      exact Nat.lt_of_lt_of_le ((Nat.div_lt_iff_lt_mul hk0).2 h2) hi
    obtain ⟨hlen, hcs⟩ := hrows (q / k) old[q / k] (List.getElem?_eq_getElem hq)
    have hm : q % k < (old[q / k]).length := by rw [hlen]; exact Nat.mod_lt _ hk0
    obtain ⟨u, hu, _, hc⟩ := hcs (q % k) _ (List.getElem?_eq_getElem hm)
    have : l.sh + q / k * k + q % k = l.sh + q := by rw [Nat.add_assoc, Nat.div_add_mod']
    rw [this] at hu hc
    exact ⟨by rw [show w.cell? ⟨l.cb, l.sh + q, none⟩ = some u from hu]; rfl, hc rfl⟩
  have hfree : Free w l.cb (l.sh + i * k) us.length := fun j hj => by
    have := hcell (i * k + j) (by omega) (by omega)
    rw [Nat.add_assoc]; exact this
  refine ⟨hfree, ⟨hk, hk0, fun _ => room_set (hroom rfl)⟩, fun r row hrow => ?_⟩
  rw [splice_get _ _ _ _ hi] at hrow
  have outside : r < i ∨ i + new.length ≤ r → old[r]? = some row → row.length = k ∧ ∀ (j : Nat) (v : V), row[j]? = some v →
      ∃ u, cellAt (w.setCells l.cb (l.sh + i * k) us) l.cb (l.sh + r * k + j) = some u ∧ CR e v u ∧ (false = false → cold (w.setCells l.cb (l.sh + i * k) us) l.cb (l.sh + r * k + j)) := by
    intro hout ho
    obtain ⟨hlen, hcs⟩ := hrows r row ho
    refine ⟨hlen, fun j v hj => ?_⟩
    obtain ⟨u, hu, hv, hc⟩ := hcs j v hj
    have hjk : j < k := by rw [← hlen]; exact (List.getElem?_eq_some_iff.1 hj).1
    refine ⟨u, ?_, hv, fun _ => cold_set _ (hc rfl)⟩
    rw [cell_out _ ?_]; exact hu
    rcases hout with hout | hout
    · have : (r + 1) * k ≤ i * k := Nat.mul_le_mul_right k hout
      rw [Nat.add_mul] at this; left; omega
    · have : (i + new.length) * k ≤ r * k := Nat.mul_le_mul_right k hout
      rw [Nat.add_mul] at this; right; rw [hr.len]; omega
  by_cases h1 : r < i
  · rw [if_pos h1] at hrow; exact outside (.inl h1) hrow
  · rw [if_neg h1] at hrow
    by_cases h2 : r < i + new.length
    · rw [if_pos h2] at hrow
      obtain ⟨hlen, hcs⟩ := hr.row (r - i) row hrow
      refine ⟨hlen, fun j v hj => ?_⟩
      obtain ⟨u, hu, hv⟩ := hcs j v hj
      have hjk : j < k := by rw [← hlen]; exact (List.getElem?_eq_some_iff.1 hj).1
      have hpos : l.sh + i * k + ((r - i) * k + j) = l.sh + r * k + j := by
        have : i * k + (r - i) * k = r * k := by rw [← Nat.add_mul]; congr 1; omega
        omega
      refine ⟨u, ?_, hv, fun _ => ?_⟩
      · have := cell_in hfree _ u hu
        rwa [hpos] at this
      · have hlt : (r - i) * k + j < us.length := (List.getElem?_eq_some_iff.1 hu).1
        have := (hfree _ hlt).2
        rw [hpos] at this
        exact cold_set _ this
    · rw [if_neg h2] at hrow; exact outside (.inr (by omega)) hrow

theorem bytes_put {l : Loc} {i : Nat} {old new : List UInt8} {us : List Value} (hB : BlkR C e (.bytes old false) l w) (hr : us = new.map fun c => Value.int .u8 c.toNat) (hi : i + new.length ≤ old.length) :
    Free w l.cb (l.sh + i) us.length ∧ BlkR C e (.bytes (splice old i new) false) l (w.setCells l.cb (l.sh + i) us) := by
  obtain ⟨⟨hk, hroom⟩, hbs⟩ := hB
  have hlen : us.length = new.length := by rw [hr]; simp
  have hfree : Free w l.cb (l.sh + i) us.length := fun j hj => by
    have hq : i + j < old.length := by omega
    obtain ⟨h1, h2⟩ := hbs (i + j) _ (List.getElem?_eq_getElem hq)
    rw [← Nat.add_assoc] at h1 h2
    exact ⟨by rw [show w.cell? ⟨l.cb, l.sh + i + j, none⟩ = _ from h1]; rfl, h2 rfl⟩
  refine ⟨hfree, ⟨hk, fun _ => room_set (hroom rfl)⟩, fun r c hc => ?_⟩
  rw [splice_get _ _ _ _ hi] at hc
  have outside : r < i ∨ i + new.length ≤ r → old[r]? = some c → cellAt (w.setCells l.cb (l.sh + i) us) l.cb (l.sh + r) = some (.int .u8 c.toNat) ∧ (false = false → cold (w.setCells l.cb (l.sh + i) us) l.cb (l.sh + r)) := by
    intro hout ho
    obtain ⟨h1, h2⟩ := hbs r c ho
    refine ⟨?_, fun _ => cold_set _ (h2 rfl)⟩
    rw [cell_out _ (by omega)]; exact h1
  by_cases h1 : r < i
  · rw [if_pos h1] at hc; exact outside (.inl h1) hc
  · rw [if_neg h1] at hc
    by_cases h2 : r < i + new.length
    · rw [if_pos h2] at hc
      have hu : us[r - i]? = some (.int .u8 c.toNat) := by rw [hr, List.getElem?_map, hc]; rfl
      have hpos : l.sh + i + (r - i) = l.sh + r := by omega
      have hlt : r - i < us.length := (List.getElem?_eq_some_iff.1 hu).1
      refine ⟨?_, fun _ => ?_⟩
      · have := cell_in hfree _ _ hu; rwa [hpos] at this
      · have := (hfree _ hlt).2
        rw [hpos] at this
        exact cold_set _ this
    · rw [if_neg h2] at hc; exact outside (.inr (by omega)) hc

/-- A write into a block of one's own. -/
theorem Stp.cells (s : Sim C B e h w) {b : Nat} {x x' : Blk} {l : Loc} (hb : h.get b = some x) (hown : x.own = true) (hl : e b = some l) (o : Nat) (us : List Value)
    (hx : BlkR C e x' l (w.setCells l.cb o us)) : Stp C B e h w e (h.set b x') (w.setCells l.cb o us) :=
  Stp.set s hb hown hl (fun c hc => setCells_heap _ _ _ _ _ hc) (setCells_size _ _ _ _) hx (setCells_sky _ _ _ _)

theorem byteOf_sound {v : V} {c : UInt8} {u : Value} (hb : byteOf v = some c) (hv : VR e v u) : u = .int .u8 c.toNat := by
  unfold byteOf at hb
  split at hb
  · rename_i n
    split at hb
    · rename_i hn
      simp at hb
      subst hb
      cases hv
      have : (UInt8.ofNat n.toNat).toNat = n.toNat := by
        rw [UInt8.toNat_ofNat']
        omega
      rw [this]
      congr 1
      omega
    · simp at hb
  · simp at hb

theorem flats_one {vs : List V} {us : List Value} (hv : VRL e vs us) (hf : vs.all V.flat = true) : ∀ u ∈ us, u.oneCell' = true := by
  intro u hu
  obtain ⟨j, hj⟩ := List.mem_iff_getElem?.1 hu
  have hlt : j < vs.length := by rw [hv.length]; exact (List.getElem?_eq_some_iff.1 hj).1
  obtain ⟨u', h1, h2⟩ := hv.get j _ (List.getElem?_eq_getElem hlt)
  rw [hj] at h1; cases h1
  exact V.flat_one h2 (by simpa using List.all_eq_true.1 hf _ (List.getElem_mem hlt))

theorem wr_sound (s : Sim C B e h w) {b r f : Nat} {vs : List V} {us : List Value} {l : Loc} (hl : e b = some l) (hw : h.wr b r f vs = some h') (hv : VRL e vs us) :
    (Go.storeCells ⟨l.cb, l.sh + r * l.k + f, none⟩ us).run P w = .ok () (w.setCells l.cb (l.sh + r * l.k + f) us) ∧ Stp C B e h w e h' (w.setCells l.cb (l.sh + r * l.k + f) us) := by
  unfold H.wr at hw
  split at hw
  · rename_i k rs hb
    obtain ⟨l', hl', hB, _, _⟩ := s.blk b _ hb
    rw [hl] at hl'; cases hl'
    cases hrow : rs[r]? with
    | none => rw [hrow] at hw; simp at hw
    | some row =>
      rw [hrow] at hw
      simp only [Option.bind_some] at hw
      split at hw
      · rename_i hle
        obtain ⟨hle, hflat⟩ := hle
        simp at hw
        subst hw
        obtain ⟨⟨hk, hk0, hroom⟩, hrows⟩ := hB
        obtain ⟨hlen, hcs⟩ := hrows r row hrow
        have hus := hv.length
        have hcell : ∀ q, q < k → ∃ u, cellAt w l.cb (l.sh + r * k + q) = some u ∧ cold w l.cb (l.sh + r * k + q) := fun q hq => by
          obtain ⟨u, hu, _, hc⟩ := hcs q row[q] (List.getElem?_eq_getElem (by omega))
          exact ⟨u, hu, hc rfl⟩
        have hfree : Free w l.cb (l.sh + r * l.k + f) us.length := fun j hj => by
          obtain ⟨u, hu, hc⟩ := hcell (f + j) (by omega)
          rw [hk, Nat.add_assoc]
          exact ⟨by rw [show w.cell? ⟨l.cb, l.sh + r * k + (f + j), none⟩ = _ from hu]; rfl, hc⟩
        refine ⟨hfree.store (flats_one hv hflat), Stp.cells s hb rfl hl _ _ ⟨⟨hk, hk0, fun _ => room_set (hroom rfl)⟩, fun q row' hq => ?_⟩⟩
        have hrl : r < rs.length := (List.getElem?_eq_some_iff.1 hrow).1
        rw [List.getElem?_set] at hq
        by_cases hqr : r = q
        · subst hqr
          rw [if_pos rfl, if_pos hrl] at hq
          simp at hq
          subst hq
          refine ⟨by simp; omega, fun j v hj => ?_⟩
          have hj' : (splice row f vs)[j]? = some v := by unfold splice; rw [List.append_assoc]; exact hj
          rw [splice_get _ _ _ _ hle] at hj'
          have keep : j < f ∨ f + vs.length ≤ j → row[j]? = some v → ∃ u, cellAt (w.setCells l.cb (l.sh + r * l.k + f) us) l.cb (l.sh + r * k + j) = some u ∧ CR e v u ∧
              (false = false → cold (w.setCells l.cb (l.sh + r * l.k + f) us) l.cb (l.sh + r * k + j)) := by
            intro hout ho
            obtain ⟨u, hu, hvr, hc⟩ := hcs j v ho
            refine ⟨u, ?_, hvr, fun _ => cold_set _ (hc rfl)⟩
            rw [hk, cell_out _ (by omega)]; exact hu
          by_cases h1 : j < f
          · rw [if_pos h1] at hj'; exact keep (.inl h1) hj'
          · rw [if_neg h1] at hj'
            by_cases h2 : j < f + vs.length
            · rw [if_pos h2] at hj'
              obtain ⟨u, hu, hvr⟩ := hv.get _ _ hj'
              have hin := cell_in hfree _ u hu
              have hpos : l.sh + r * l.k + f + (j - f) = l.sh + r * k + j := by rw [hk]; omega
              rw [hpos] at hin
              have hlt : j - f < us.length := (List.getElem?_eq_some_iff.1 hu).1
              have hc := (hfree _ hlt).2
              rw [hpos] at hc
              exact ⟨u, hin, ⟨hvr, List.all_eq_true.1 hflat _ (List.mem_of_getElem? hj')⟩, fun _ => cold_set _ hc⟩
            · rw [if_neg h2] at hj'; exact keep (.inr (by omega)) hj'
        · rw [if_neg hqr] at hq
          obtain ⟨hlen', hcs'⟩ := hrows q row' hq
          refine ⟨hlen', fun j v hj => ?_⟩
          obtain ⟨u, hu, hvr, hc⟩ := hcs' j v hj
          have hjk : j < k := by rw [← hlen']; exact (List.getElem?_eq_some_iff.1 hj).1
          refine ⟨u, ?_, hvr, fun _ => cold_set _ (hc rfl)⟩
          rw [hk, cell_out _ ?_]; exact hu
          rcases Nat.lt_or_gt_of_ne hqr with hlt | hlt
          · have : (r + 1) * k ≤ q * k := Nat.mul_le_mul_right k hlt
            rw [Nat.add_mul] at this; right; omega
          · have : (q + 1) * k ≤ r * k := Nat.mul_le_mul_right k hlt
            rw [Nat.add_mul] at this; left; omega
      · simp at hw
  · rename_i bs hb
    obtain ⟨l', hl', hB, _, _⟩ := s.blk b _ hb
    rw [hl] at hl'; cases hl'
    split at hw
    · rename_i hc
      obtain ⟨hlt, rfl⟩ := hc
      have hk := hB.1.1
      split at hw
      · simp at hw; subst hw
        cases hv
        exact ⟨rfl, Stp.refl s⟩
      · rename_i v
        cases hv with
        | cons _ u _ us' hvu hs =>
          cases hs
          cases hbv : byteOf v with
          | none => rw [hbv] at hw; simp at hw
          | some c =>
            rw [hbv] at hw; simp at hw; subst hw
            obtain rfl := byteOf_sound hbv hvu
            obtain ⟨hf, hb'⟩ := bytes_put (i := r) (new := [c]) hB rfl (by simp; omega)
            have e1 : l.sh + r * l.k + 0 = l.sh + r := by rw [hk]; simp
            have e2 : splice bs r [c] = bs.set r c := by
              apply List.ext_getElem?
              intro q
              rw [splice_get _ _ _ _ (by simp; omega), List.getElem?_set]
              by_cases h1 : q < r
              · rw [if_pos h1, if_neg (by omega)]
              · rw [if_neg h1]
                by_cases h2 : q < r + 1
                · have : r = q := by omega
                  subst this
                  simp [hlt]
                · rw [if_neg (by simpa using h2), if_neg (by omega)]
            rw [e1]
            rw [e2] at hb'
            exact ⟨hf.store (by simp [Go.Value.oneCell']), Stp.cells s hb rfl hl _ _ hb'⟩
      · simp at hw
    · simp at hw
  · simp at hw

end Am

/- AmOps1: types, constants, operands; new blocks; what a slice holds; appending. -/
namespace Am
set_option linter.unusedVariables false
set_option linter.unusedSimpArgs false
open Go (IntKind BinOp UnOp Value Program TypeId TypeDesc Operand Oper Code Tmp World Addr Obj Act)

variable {P : Program} {C : Cx} {B : Nat} {e e' : Emb} {h h' : H} {w w' : World}

theorem ofFlat_sound {v : Value} {x : V} (hv : ofFlat v = some x) : VR e x v := by
  unfold ofFlat at hv
  split at hv <;> simp at hv <;> subst hv <;> constructor
theorem ofFlats_sound : ∀ {vs : List Value} {xs : List V}, ofFlats vs = some xs → VRL e xs vs
  | [], xs, h => by simp [ofFlats] at h; subst h; exact .nil
  | v :: vs, xs, h => by
    unfold ofFlats at h
    obtain ⟨x, hx, h⟩ := Option.bind_eq_some_iff.1 h
    obtain ⟨ys, hy, h⟩ := Option.bind_eq_some_iff.1 h
    cases h
    exact .cons _ _ _ _ (ofFlat_sound hx) (ofFlats_sound hy)
theorem ofFlat_flat {v : Value} {x : V} (hv : ofFlat v = some x) : x.flat = true := by
  unfold ofFlat at hv
  split at hv <;> simp at hv <;> subst hv <;> rfl
theorem ofFlats_flat : ∀ {vs : List Value} {xs : List V}, ofFlats vs = some xs → xs.all V.flat = true
  | [], xs, h => by simp [ofFlats] at h; subst h; rfl
  | v :: vs, xs, h => by
    unfold ofFlats at h
    obtain ⟨x, hx, h⟩ := Option.bind_eq_some_iff.1 h
    obtain ⟨ys, hy, h⟩ := Option.bind_eq_some_iff.1 h
    cases h
    simp only [List.all_cons, ofFlat_flat hx, ofFlats_flat hy, Bool.and_self]
theorem zeroT_flat {P : Program} {t : TypeId} {z : List V} (hz : zeroT P t = some z) : z.all V.flat = true := by
  unfold zeroT at hz
  obtain ⟨v, hv, hx⟩ := Option.bind_eq_some_iff.1 hz
  exact ofFlats_flat hx
theorem ofValue_sound {v : Value} {x : V} (hv : ofValue v = some x) : VR e x v := by
  unfold ofValue at hv
  split at hv
  · obtain ⟨xs, hx, rfl⟩ := Option.map_eq_some_iff.1 hv
    exact .agg _ _ (ofFlats_sound hx)
  · exact ofFlat_sound hv

/-- The temporaries. -/
structure TR (e : Emb) (nt : Nat) (t : Tm) (a : Act) : Prop where
  size : a.tmps.size = nt
  get : ∀ n, VR e (t.v n) (a.tmps.getD n Go.undef)

theorem VR.un : VR e V.un Go.undef := .tup _ _ .nil

theorem TR.mono {nt : Nat} {t : Tm} {a : Act} (h : TR e nt t a) (he : e.le e') : TR e' nt t a := ⟨h.size, fun n => (h.get n).mono he⟩

theorem TR.opd {nt : Nat} {t : Tm} {a : Act} (h : TR e nt t a) {gl : Nat → Option Loc} (hgl : ∀ b l, gl b = some l → e b = some l) (hg : ∀ g, g < 4096 → ∃ l, gl g = some l ∧ l.cb = g ∧ l.sh = 0) {o : Operand} {x : AOpd} (hx : opd o = some x) : VR e (t.ev x) (a.eval o) := by
  cases o with
  | tmp n => simp [Am.opd] at hx; subst hx; exact h.get n
  | const v =>
    simp only [Am.opd] at hx
    obtain ⟨y, hy, rfl⟩ := Option.map_eq_some_iff.1 hx
    exact ofValue_sound hy
  | func f => simp [Am.opd] at hx; subst hx; exact .fn f [] #[] .nil
  | global g =>
    simp only [Am.opd] at hx
    split at hx
    · rename_i hlt
      cases hx
      obtain ⟨l, h1, h2, h3⟩ := hg g hlt
      have := VR.p (e := e) g 0 0 l (hgl _ _ h1)
      rw [h2, h3, show 0 + 0 * l.k + 0 = 0 by simp] at this
      exact this
    · cases hx

/-- What is given of the operands. -/
def OpdR (e : Emb) (t : Tm) (ρ : Operand → Value) : Prop := ∀ o x, opd o = some x → VR e (t.ev x) (ρ o)

theorem OpdR.list {t : Tm} {ρ : Operand → Value} (hρ : OpdR e t ρ) : ∀ {os : List Operand} {xs : List AOpd}, opds os = some xs → VRL e (xs.map t.ev) (os.map ρ)
  | [], xs, h => by simp [opds] at h; subst h; exact .nil
  | o :: os, xs, h => by
    unfold opds at h
    obtain ⟨x, hx, h⟩ := Option.bind_eq_some_iff.1 h
    obtain ⟨ys, hy, h⟩ := Option.bind_eq_some_iff.1 h
    cases h
    exact .cons _ _ _ _ (hρ _ _ hx) (hρ.list hy)

theorem info_of_sz {t : TypeId} {n : Nat} (hn : szOf P t = some n) : ∃ i, P.info? t = some i ∧ i.size = n := by
  unfold szOf at hn
  exact Option.map_eq_some_iff.1 hn
theorem run_sz {t : TypeId} {n : Nat} (hn : szOf P t = some n) (w : World) : (Go.sizeOf t).run P w = .ok n w := by
  obtain ⟨i, hi, rfl⟩ := info_of_sz hn
  simp [Go.sizeOf, Go.typeInfo, hi]
theorem run_info {t : TypeId} {i : Go.TypeInfo} (hi : P.info? t = some i) (w : World) : (Go.typeInfo t).run P w = .ok i w := by
  simp [Go.typeInfo, hi]
theorem run_agg {t : TypeId} {g : Bool} (hg : aggT P t = some g) (w : World) : (Go.isAgg t).run P w = .ok g w := by
  unfold aggT at hg
  cases hu : P.underlying t with
  | none => rw [hu] at hg; simp at hg
  | some d =>
    rw [hu] at hg
    simp only [Go.isAgg, Go.Sem.run_bind, Go.run_underlying hu, Go.Result.andThen_ok]
    cases d <;> simp_all
theorem run_zero {t : TypeId} {z : List V} (hz : zeroT P t = some z) (w : World) : ∃ v, (Go.zeroValue t).run P w = .ok v w ∧ ∀ e, VRL e z v.cells.toList := by
  unfold zeroT at hz
  obtain ⟨v, hv, hx⟩ := Option.bind_eq_some_iff.1 hz
  obtain ⟨i, hi, hv⟩ := Option.bind_eq_some_iff.1 hv
  exact ⟨v, by simp [Go.zeroValue, Go.typeInfo, hi, hv], fun e => ofFlats_sound hx⟩
theorem run_zeroV {t : TypeId} {z : V} (hz : zeroV P t = some z) (w : World) : ∃ v, (Go.zeroValue t).run P w = .ok v w ∧ ∀ e, VR e z v := by
  unfold zeroV at hz
  obtain ⟨v, hv, hx⟩ := Option.bind_eq_some_iff.1 hz
  obtain ⟨i, hi, hv⟩ := Option.bind_eq_some_iff.1 hv
  exact ⟨v, by simp [Go.zeroValue, Go.typeInfo, hi, hv], fun e => ofValue_sound hx⟩

/-! ### New blocks -/
theorem VRR.mono {k : Nat} {rs : List (List V)} {us : List Value} (hr : VRR e k rs us) (he : e.le e') : VRR e' k rs us :=
  ⟨hr.len, fun r row hrow => ⟨(hr.row r row hrow).1, fun j v hj => let ⟨u, a, b⟩ := (hr.row r row hrow).2 j v hj; ⟨u, a, b.mono he⟩⟩⟩

theorem room_new {cs : Array Value} {el : TypeId} {fr : Nat × Nat} {cb k top : Nat} (ht : top * k ≤ cs.size) (hc : w.heap[cb]? = some (.cells cs el fr)) (hf : ∀ j, j < cs.size → ¬ (fr.1 ≤ j ∧ j < fr.2)) (hm : fr.1 = fr.2 ∨ cs.size ≤ fr.1) :
    Room w ⟨cb, 0, k, top⟩ ∧ Mild w ⟨cb, 0, k, top⟩ := by
  refine ⟨?_, cs, el, fr.1, fr.2, hc, hm⟩
  intro q hq
  have hlt : q < cs.size := Nat.lt_of_lt_of_le hq ht
  constructor
  · simp only [cellAt, World.cell?, hc, Option.isSome_none, Nat.zero_add]
    simp [hlt]
  · simp only [cold, World.frozen?, hc, Nat.zero_add]
    have := hf _ hlt
    simp only [Bool.and_eq_false_iff, decide_eq_false_iff_not]
    omega
theorem blk_rows {k : Nat} {rs : List (List V)} {us : List Value} {cs : Array Value} {el : TypeId} {fr : Nat × Nat} {cb : Nat} (hk : 0 < k) (hr : VRR e k rs us)
    (hc : w.heap[cb]? = some (.cells cs el fr)) (hus : ∀ (j : Nat) (u : Value), us[j]? = some u → cs[j]? = some u) {top : Nat} (ht : top * k ≤ cs.size) (hf : ∀ j, j < cs.size → ¬ (fr.1 ≤ j ∧ j < fr.2)) (hm : fr.1 = fr.2 ∨ cs.size ≤ fr.1 := by exact .inl rfl) : BlkR C e (.rows k rs false) ⟨cb, 0, k, top⟩ w := by
  refine ⟨⟨rfl, hk, fun _ => room_new ht hc hf hm⟩, fun r row hrow => ⟨(hr.row r row hrow).1, fun j v hj => ?_⟩⟩
  obtain ⟨u, hu, hv⟩ := (hr.row r row hrow).2 j v hj
  have hlt : r * k + j < us.length := (List.getElem?_eq_some_iff.1 hu).1
  refine ⟨u, ?_, hv, fun _ => ?_⟩
  · simp only [cellAt, World.cell?, hc, Option.isSome_none, Nat.zero_add]
    exact hus _ _ hu
  · simp only [cold, World.frozen?, hc, Nat.zero_add]
    have := hf (r * k + j) ((Array.getElem?_eq_some_iff.1 (hus _ _ hu)).1)
    simp only [Bool.and_eq_false_iff, decide_eq_false_iff_not]
    omega
theorem blk_bytes {bs : List UInt8} {cs : Array Value} {el : TypeId} {fr : Nat × Nat} {cb : Nat}
    (hc : w.heap[cb]? = some (.cells cs el fr)) (hus : ∀ (j : Nat) (c : UInt8), bs[j]? = some c → cs[j]? = some (.int .u8 c.toNat)) {top : Nat} (ht : top ≤ cs.size) (hf : ∀ j, j < cs.size → ¬ (fr.1 ≤ j ∧ j < fr.2)) (hm : fr.1 = fr.2 ∨ cs.size ≤ fr.1 := by exact .inl rfl) : BlkR C e (.bytes bs false) ⟨cb, 0, 1, top⟩ w := by
  refine ⟨⟨rfl, fun _ => room_new (by omega) hc hf hm⟩, fun r c hr => ?_⟩
  have hlt : r < bs.length := (List.getElem?_eq_some_iff.1 hr).1
  refine ⟨?_, fun _ => ?_⟩
  · simp only [cellAt, World.cell?, hc, Option.isSome_none, Nat.zero_add]
    exact hus _ _ hr
  · simp only [cold, World.frozen?, hc, Nat.zero_add]
    have := hf r ((Array.getElem?_eq_some_iff.1 (hus _ _ hr)).1)
    simp only [Bool.and_eq_false_iff, decide_eq_false_iff_not]
    omega

/-- A world whose heap has one object more. -/
theorem Stp.fresh (s : Sim C B e h w) {o : Obj} {x : Blk} {k top : Nat} (hh : w'.heap = w.heap.push o) (hx : ∀ e', e.le e' → BlkR C e' x ⟨w.heap.size, 0, k, top⟩ w') (hs : Sky w w' := by exact ⟨rfl, rfl, rfl⟩) :
    Stp C B e h w (e.add h.nx ⟨w.heap.size, 0, k, top⟩) (h.push x) w' :=
  Stp.push s x ⟨w.heap.size, 0, k, top⟩ (Nat.le_refl _) (fun c hc => by rw [hh]; simp [Array.getElem?_push, Nat.ne_of_lt hc]) (by rw [hh]; simp) (hx _ (Emb.le_add _ s.fresh)) hs
theorem push_get {o : Obj} (hh : w'.heap = w.heap.push o) : w'.heap[w.heap.size]? = some o := by rw [hh]; simp

/-! ### What a slice holds -/
theorem sl_addr {b r len cap c n : Nat} {ex : Bool} {A : Addr} {l : Loc} (hl : e b = some l) (h : VR e (.sl (some (b, r)) len cap ex) (.slice (some A) len c)) (hn : n ≤ len) (h0 : n ≠ 0) :
    A = ⟨l.cb, l.sh + r * l.k, none⟩ ∧ c ≠ 0 := by
  cases h with
  | sl _ _ _ _ _ _ l' _ h1 h2 h3 h4 h5 =>
    rw [hl] at h1; cases h1
    have hc : c ≠ 0 := by omega
    exact ⟨(h5 hc).1, hc⟩

theorem rseg_sound (s : Sim C B e h w) {k n : Nat} {a : Option (Nat × Nat)} {len cap : Nat} {ex : Bool} {u : Value} {rs : List (List V)}
    (hr : h.rseg k a n = some rs) (hv : VR e (.sl a len cap ex) u) (hn : n ≤ len) :
    rs.length = n ∧ ∃ us A c, VRR e k rs us ∧ u = .slice A len c ∧ (n = 0 ∨ ∃ cb o, A = some ⟨cb, o, none⟩ ∧ Lies w cb o us) := by
  unfold H.rseg at hr
  by_cases h0 : n = 0
  · rw [if_pos h0] at hr
    simp at hr; subst hr
    refine ⟨by simp [h0], [], ?_⟩
    have : VRR e k [] [] := ⟨by simp, fun r row hrow => by simp at hrow⟩
    cases hv with
    | sl0 => exact ⟨none, 0, this, rfl, .inl h0⟩
    | sl b r _ _ c _ l A => exact ⟨some A, c, this, rfl, .inl h0⟩
  · rw [if_neg h0] at hr
    cases a with
    | none => simp at hr
    | some br =>
      obtain ⟨b, r⟩ := br
      simp only at hr
      split at hr
      · rename_i k' all ro hb
        split at hr
        · rename_i hc
          obtain ⟨rfl, hle⟩ := hc
          simp at hr
          obtain ⟨l, hl, hB, _, _⟩ := s.blk b _ hb
          obtain ⟨⟨hk, hk0, _⟩, hrows⟩ := hB
          have hlen : rs.length = n := by rw [← hr]; simp; omega
          refine ⟨hlen, ?_⟩
          have hv' := hv
          cases hv with
          | sl _ _ _ _ c _ l' A h1 h2 h3 h4 h5 =>
            obtain ⟨hA, _⟩ := sl_addr hl hv' hn h0
            have hget : ∀ (q : Nat) (row : List V), rs[q]? = some row → all[r + q]? = some row := fun q row hq => by
              rw [← hr, List.getElem?_take] at hq
              split at hq
              · rw [List.getElem?_drop] at hq; exact hq
              · simp at hq
            have hcell : ∀ q, q < n * k' → ∃ u, cellAt w l.cb (l.sh + r * k' + q) = some u := fun q hq => by
              have hqk : q / k' < n := (Nat.div_lt_iff_lt_mul hk0).2 hq
              have hq2 : q / k' < rs.length := by omega
              obtain ⟨hlen2, hcs⟩ := hrows (r + q / k') _ (hget _ _ (List.getElem?_eq_getElem hq2))
              have hm : q % k' < (rs[q / k']).length := by rw [hlen2]; exact Nat.mod_lt _ hk0
              obtain ⟨u, hu, _⟩ := hcs _ _ (List.getElem?_eq_getElem hm)
              refine ⟨u, ?_⟩
              have : l.sh + (r + q / k') * k' + q % k' = l.sh + r * k' + q := by
                rw [Nat.add_mul, Nat.add_assoc, Nat.add_assoc, Nat.div_add_mod']; omega
              rw [this] at hu; exact hu
            refine ⟨(List.range (n * k')).map fun q => (cellAt w l.cb (l.sh + r * k' + q)).getD Go.undef, some A, c, ⟨by simp [hlen], fun q row hq => ?_⟩, rfl, .inr ⟨l.cb, l.sh + r * k', by rw [hA, hk], fun q u hq => ?_⟩⟩
            · obtain ⟨hlen2, hcs⟩ := hrows (r + q) row (hget _ _ hq)
              refine ⟨hlen2, fun j v hj => ?_⟩
              obtain ⟨u, hu, hvr, _⟩ := hcs j v hj
              have hjk : j < k' := by rw [← hlen2]; exact (List.getElem?_eq_some_iff.1 hj).1
              have hqn : q < n := by rw [← hlen]; exact (List.getElem?_eq_some_iff.1 hq).1
              have hlt : q * k' + j < n * k' := by
                have : (q + 1) * k' ≤ n * k' := Nat.mul_le_mul_right k' hqn
                rw [Nat.add_mul] at this; omega
              refine ⟨u, ?_, hvr⟩
              rw [List.getElem?_map, List.getElem?_range hlt]
              have : l.sh + r * k' + (q * k' + j) = l.sh + (r + q) * k' + j := by rw [Nat.add_mul]; omega
              simp only [Option.map_some]
              rw [this, hu]; rfl
            · by_cases hq2 : q < n * k'
              · rw [List.getElem?_map, List.getElem?_range hq2] at hq
                obtain ⟨u', hu'⟩ := hcell q hq2
                simp only [Option.map_some] at hq
                rw [hu'] at hq
                cases hq
                exact hu'
              · rw [List.getElem?_eq_none (by simp; omega)] at hq; simp at hq
        · simp at hr
      · simp at hr

theorem bseg_sound (s : Sim C B e h w) {n : Nat} {a : Option (Nat × Nat)} {len cap : Nat} {ex : Bool} {u : Value} {bs : List UInt8}
    (hr : h.bseg a n = some bs) (hv : VR e (.sl a len cap ex) u) (hn : n ≤ len) :
    bs.length = n ∧ ∃ A c, u = .slice A len c ∧ (n = 0 ∨ ∃ cb o, A = some ⟨cb, o, none⟩ ∧ Lies w cb o (bs.map fun (c : UInt8) => Value.int .u8 c.toNat)) := by
  unfold H.bseg at hr
  by_cases h0 : n = 0
  · rw [if_pos h0] at hr
    simp at hr; subst hr
    refine ⟨by simp [h0], ?_⟩
    cases hv with
    | sl0 => exact ⟨none, 0, rfl, .inl h0⟩
    | sl b r _ _ c _ l A => exact ⟨some A, c, rfl, .inl h0⟩
  · rw [if_neg h0] at hr
    cases a with
    | none => simp at hr
    | some br =>
      obtain ⟨b, r⟩ := br
      simp only at hr
      split at hr
      · rename_i all ro hb
        split at hr
        · rename_i hle
          simp at hr
          obtain ⟨l, hl, hB, _, _⟩ := s.blk b _ hb
          obtain ⟨⟨hk, _⟩, hbs⟩ := hB
          have hlen : bs.length = n := by rw [← hr]; simp; omega
          refine ⟨hlen, ?_⟩
          have hv' := hv
          cases hv with
          | sl _ _ _ _ c _ l' A h1 h2 h3 h4 h5 =>
            obtain ⟨hA, _⟩ := sl_addr hl hv' hn h0
            refine ⟨some A, c, rfl, .inr ⟨l.cb, l.sh + r, by rw [hA, hk, Nat.mul_one], fun q u hq => ?_⟩⟩
            rw [List.getElem?_map] at hq
            obtain ⟨x, hx, rfl⟩ := Option.map_eq_some_iff.1 hq
            rw [← hr, List.getElem?_take] at hx
            split at hx
            · rw [List.getElem?_drop] at hx
              have := (hbs (r + q) x hx).1
              rw [Nat.add_assoc]; exact this
            · simp at hx
        · simp at hr
      · simp at hr

/-- The cells of the first n elements, as the model reads them. -/
theorem first_rows {k len c : Nat} {A : Option Addr} {us : List Value} (n : Nat) (hk : us.length = n * k) (hl : n = 0 ∨ ∃ cb o, A = some ⟨cb, o, none⟩ ∧ Lies w cb o us) :
    (Go.Builtin.firstCells k n (.slice A len c)).run P w = .ok us.toArray w := by
  rcases hl with h0 | ⟨cb, o, rfl, hl⟩
  · subst h0
    have : us = [] := by simpa using hk
    subst this
    cases A with
    | none => rfl
    | some a => simp [Go.Builtin.firstCells, Go.loadCells, Go.loadCellsFrom]
  · simp only [Go.Builtin.firstCells]
    rw [← hk]; exact hl.load

theorem VRR.cells {k : Nat} {rs : List (List V)} {us : List Value} (hus : VRR e k rs us) : ∀ u ∈ us, u.oneCell' = true := by
  intro u hu
  obtain ⟨q, hq⟩ := List.mem_iff_getElem?.1 hu
  have hql : q < us.length := (List.getElem?_eq_some_iff.1 hq).1
  have hk0 : 0 < k := by
    rcases Nat.eq_zero_or_pos k with h0 | h0
    · rw [hus.len, h0] at hql; simp at hql
    · exact h0
  have hqr : q / k < rs.length := by
    rw [hus.len] at hql
    exact (Nat.div_lt_iff_lt_mul hk0).2 hql
  obtain ⟨hlen, hcs⟩ := hus.row (q / k) _ (List.getElem?_eq_getElem hqr)
  have hm : q % k < (rs[q / k]).length := by rw [hlen]; exact Nat.mod_lt _ hk0
  obtain ⟨u', h1, h2⟩ := hcs _ _ (List.getElem?_eq_getElem hm)
  rw [Nat.div_add_mod'] at h1
  rw [hq] at h1; cases h1
  exact h2.one

/-- Rows written into a slice's array from a place on. -/
theorem rput_sound (s : Sim C B e h w) {k at_ : Nat} {a : Option (Nat × Nat)} {len cap : Nat} {ex : Bool} {u : Value} {rs : List (List V)} {us : List Value}
    (hr : h.rput k a at_ rs = some h') (hv : VR e (.sl a len cap ex) u) (hus : VRR e k rs us) (hcap : at_ + rs.length ≤ cap) :
    ∃ A c w', u = .slice A len c ∧ (match A with | some a => (Go.storeCells (a.add (at_ * k)) us).run P w | none => .ok () w) = .ok () w' ∧ Stp C B e h w e h' w' := by
  unfold H.rput at hr
  have h1 := hus.cells
  by_cases h0 : rs = []
  · rw [if_pos h0] at hr
    simp at hr; subst hr
    subst h0
    have : us = [] := by have := hus.len; simpa using this
    subst this
    cases hv with
    | sl0 => exact ⟨none, 0, w, rfl, rfl, Stp.refl s⟩
    | sl b r _ _ c _ l A => exact ⟨some A, c, w, rfl, rfl, Stp.refl s⟩
  · rw [if_neg h0] at hr
    cases a with
    | none => simp at hr
    | some br =>
      obtain ⟨b, r⟩ := br
      simp only at hr
      split at hr
      · rename_i k' all hb
        split at hr
        · rename_i hc
          obtain ⟨rfl, hle⟩ := hc
          simp at hr; subst hr
          obtain ⟨l, hl, hB, _, _⟩ := s.blk b _ hb
          obtain ⟨hfree, hB'⟩ := rows_put (i := r + at_) (new := rs) hB hus (by omega)
          have hk := hB.1.1
          cases hv with
          | sl _ _ _ _ c _ l' A h1' h2 h3 h4 h5 =>
            rw [hl] at h1'; cases h1'
            have hpos : 0 < rs.length := List.length_pos_iff.2 h0
            have hA := (h5 (by omega)).1
            have hadd : A.add (at_ * k') = ⟨l.cb, l.sh + (r + at_) * k', none⟩ := by
              rw [hA, add_mk, hk]
              rw [Nat.add_mul, Nat.add_assoc]
            refine ⟨some A, c, _, rfl, ?_, Stp.cells s hb rfl hl _ _ hB'⟩
            simp only [hadd]
            exact hfree.store h1
        · simp at hr
      · simp at hr

theorem bput_sound (s : Sim C B e h w) {at_ : Nat} {a : Option (Nat × Nat)} {len cap : Nat} {ex : Bool} {u : Value} {bs : List UInt8}
    (hr : h.bput a at_ bs = some h') (hv : VR e (.sl a len cap ex) u) (hcap : at_ + bs.length ≤ cap) :
    ∃ A c w', u = .slice A len c ∧ (match A with | some a => (Go.storeCells (a.add at_) (bs.map fun (c : UInt8) => Value.int .u8 c.toNat)).run P w | none => .ok () w) = .ok () w' ∧ Stp C B e h w e h' w' := by
  unfold H.bput at hr
  by_cases h0 : bs = []
  · rw [if_pos h0] at hr
    simp at hr; subst hr
    subst h0
    cases hv with
    | sl0 => exact ⟨none, 0, w, rfl, rfl, Stp.refl s⟩
    | sl b r _ _ c _ l A => exact ⟨some A, c, w, rfl, rfl, Stp.refl s⟩
  · rw [if_neg h0] at hr
    cases a with
    | none => simp at hr
    | some br =>
      obtain ⟨b, r⟩ := br
      simp only at hr
      split at hr
      · rename_i all hb
        split at hr
        · rename_i hle
          simp at hr; subst hr
          obtain ⟨l, hl, hB, _, _⟩ := s.blk b _ hb
          obtain ⟨hfree, hB'⟩ := bytes_put (i := r + at_) (new := bs) hB rfl (by omega)
          have hk := hB.1.1
          cases hv with
          | sl _ _ _ _ c _ l' A h1' h2 h3 h4 h5 =>
            rw [hl] at h1'; cases h1'
            have hpos : 0 < bs.length := List.length_pos_iff.2 h0
            have hA := (h5 (by omega)).1
            have hadd : A.add at_ = ⟨l.cb, l.sh + (r + at_), none⟩ := by
              rw [hA, add_mk, hk, Nat.mul_one, Nat.add_assoc]
            refine ⟨some A, c, _, rfl, ?_, Stp.cells s hb rfl hl _ _ hB'⟩
            simp only [hadd]
            exact hfree.store (by simp [Go.Value.oneCell'])
        · simp at hr
      · simp at hr

end Am

/- AmApp: append: in place, or into a new array, or whichever of the two the tape says. -/
namespace Am
set_option linter.unusedVariables false
set_option linter.unusedSimpArgs false
open Go (IntKind BinOp UnOp Value Program TypeId TypeDesc Operand Oper Code Tmp World Addr Obj Act)

variable {P : Program} {C : Cx} {B : Nat} {e e' : Emb} {h h' : H} {w w' : World}

/-- A block that gives way to another one at the same place. -/
theorem Stp.replace (s : Sim C B e h w) {b : Nat} {x x' : Blk} {l l' : Loc} (hb : h.get b = some x) (hown : x.own = true) (hl : e b = some l) (hcb : l'.cb = l.cb)
    (hk : ∀ c, c ≠ l.cb → w'.heap[c]? = w.heap[c]?) (hg : w'.heap.size = w.heap.size) (hx : BlkR C (e.add h.nx l') x' l' w') (hs : Sky w w' := by exact ⟨rfl, rfl, rfl⟩) :
    Stp C B e h w (e.add h.nx l') ((h.kill b).push x') w' := by
  have hle : e.le (e.add h.nx l') := Emb.le_add l' s.fresh
  have gp : ∀ c y, ((h.kill b).push x').get c = some y → (c = h.nx ∧ y = x') ∨ (c ≠ h.nx ∧ c ≠ b ∧ h.get c = some y) := by
    intro c y hc
    rw [H.get_push] at hc
    by_cases hcn : c = h.nx
    · rw [if_pos (by exact hcn)] at hc; exact .inl ⟨hcn, (Option.some.inj hc).symm⟩
    · rw [if_neg (by exact hcn), H.get_kill] at hc
      by_cases hcb : c = b
      · rw [if_pos hcb] at hc; cases hc
      · rw [if_neg hcb] at hc; exact .inr ⟨hcn, hcb, hc⟩
  have old : ∀ c y m, h.get c = some y → e.add h.nx l' c = some m → e c = some m := by
    intro c y m hc hm
    have hne : c ≠ h.nx := Nat.ne_of_lt (s.lt hc)
    simpa [Emb.add, hne] using hm
  obtain ⟨l0, hl0, _, hlt0, ho0⟩ := s.blk b x hb
  rw [hl] at hl0; cases hl0
  have far : ∀ c y m, c ≠ b → h.get c = some y → e c = some m → m.cb ≠ l.cb := fun c y m hcb hc hm => (s.inj b c x y l m hb hc hown (Ne.symm hcb) hl hm).symm
  refine ⟨hle, ⟨fun c y hc => ?_, ?_, ?_, by rw [hg]; exact s.low, fun b l hb => hle _ _ (s.gl b l hb), s.tab.of fun c m y hm hc => ?_⟩, fun c ho => ?_, fun c ho => ?_, fun c hc ho => ?_, Nat.le_of_eq hg.symm, Nat.le_succ _, hs⟩
  · rcases gp c y hc with ⟨rfl, rfl⟩ | ⟨_, hcb, hc'⟩
    · exact ⟨l', Emb.add_same _ _ _, hx, by omega, fun _ => by rw [‹l'.cb = l.cb›]; exact ho0 hown⟩
    · obtain ⟨m, hm, hr, hlt, ho⟩ := s.blk c y hc'
      exact ⟨m, hle _ _ hm, (hr.of_heap (hk _ (far c y m hcb hc' hm))).mono hle, by omega, ho⟩
  · intro c c' y y' m m' hc hc' ho hne hm hm'
    rcases gp c y hc with ⟨rfl, rfl⟩ | ⟨_, hb1, hc1⟩ <;> rcases gp c' y' hc' with ⟨rfl, rfl⟩ | ⟨_, hb2, hc2⟩
    · exact absurd rfl hne
    · rw [Emb.add_same] at hm; cases hm
      rw [hcb]
      exact (far c' y' m' hb2 hc2 (old _ _ _ hc2 hm')).symm
    · rw [Emb.add_same] at hm'; cases hm'
      rw [hcb]
      exact far c y m hb1 hc1 (old _ _ _ hc1 hm)
    · exact s.inj _ _ _ _ _ _ hc1 hc2 ho hne (old _ _ _ hc1 hm) (old _ _ _ hc2 hm')
  · intro c m hm
    unfold Emb.add at hm
    show c < h.nx + 1
    by_cases hcn : c = h.nx
    · omega
    · rw [if_neg hcn] at hm; have := s.dom c m hm; omega
  · rcases gp c y hc with ⟨rfl, rfl⟩ | ⟨_, hcb', hc1⟩
    · exact absurd (s.gl_lt hm) (Nat.lt_irrefl _)
    · exact ⟨hc1, hk _ (s.gl_ne hm hc1 hb hown hl).1⟩
  · obtain ⟨c', y, m, hc', hy, hm, rfl⟩ := ho
    rcases gp c' y hc' with ⟨rfl, rfl⟩ | ⟨_, hb1, hc1⟩
    · rw [Emb.add_same] at hm; cases hm; exact .inr ⟨b, x, l, hb, hown, hl, hcb.symm⟩
    · exact .inr ⟨c', y, m, hc1, hy, old _ _ _ hc1 hm, rfl⟩
  · obtain ⟨c', y, m, hc', hm, rfl⟩ := ho
    rcases gp c' y hc' with ⟨rfl, rfl⟩ | ⟨_, hb1, hc1⟩
    · rw [Emb.add_same] at hm; cases hm; exact .inr ⟨b, x, l, hb, hl, hcb.symm⟩
    · exact .inr ⟨c', y, m, hc1, old _ _ _ hc1 hm, rfl⟩
  · exact hk c fun hcl => ho ⟨b, x, l, hb, hown, hl, hcl.symm⟩

theorem next_le (need c : Nat) (hc : c < need) : Go.Builtin.nextslicecap need c ≤ 2 * need + 768 := by
  have grow : ∀ (n c : Nat), c ≤ 2 * need + 768 → Go.Builtin.growBy need n c ≤ 2 * need + 768 := by
    intro n
    induction n with
    | zero => intro c hc; exact hc
    | succ n ih =>
      intro c hc
      unfold Go.Builtin.growBy
      split
      · exact hc
      · exact ih _ (by omega)
  unfold Go.Builtin.nextslicecap
  split
  · omega
  · split
    · omega
    · exact grow 4 c (by omega)

theorem room_next {need bytes c : Nat} (hr : roomOk need bytes = true) (hc : c < need) : ¬ (Go.Builtin.nextslicecap need c * bytes > 2 ^ 48) ∧ ¬ ((need : Int) > IntKind.i64.max) ∧ bytes ≠ 0 := by
  unfold roomOk at hr
  simp only [Bool.and_eq_true, decide_eq_true_eq] at hr
  obtain ⟨⟨h0, h1⟩, h2⟩ := hr
  refine ⟨?_, ?_, by omega⟩
  · have h3 : Go.Builtin.nextslicecap need c * bytes ≤ (2 * need + 768) * bytes := Nat.mul_le_mul_right _ (next_le need c hc)
    have h4 : (2 * need + 768) * bytes = 2 * (need * bytes) + 768 * bytes := by rw [Nat.add_mul, Nat.mul_assoc]
    omega
  · have h3 : need * 1 ≤ need * bytes := Nat.mul_le_mul_left _ h0
    have : IntKind.i64.max = 9223372036854775807 := by decide
    rw [this]; omega

theorem zeroCells_size (z : Array Value) (n : Nat) : (Go.Builtin.zeroCells z n).size = n * z.size := by simp [Go.Builtin.zeroCells]

/-- What the model does behind the count: 'n' elements are appended, 'us' are their cells. -/
def appCore (el : TypeId) (size : Nat) (base : Option Addr) (sLen sCap n : Nat) (zeros : Bool) (x : Value) (appended : Go.Sem (Array Value)) : Go.Sem Value := do
  let need := sLen + n
  if need ≤ sCap then
    let new ← appended
    if let some a := base then Go.storeCells (a.add (sLen * size)) new.toList
    pure (.slice base need sCap)
  else
    if (need : Int) > IntKind.i64.max ∧ (zeros ∨ (← Go.typeInfo el).bytes = 0) then Go.runtimePanic (.error "growslice: len out of range")
    if Go.Builtin.nextslicecap need sCap * (← Go.typeInfo el).bytes > 2 ^ 48 then (if zeros then Go.runtimePanic (.error "growslice: len out of range") else do
      if !(← Go.Builtin.mayShare size sLen n base x) then Go.mark .noRoom
      Go.unsupported (.resourceLimit "append: a slice or a string whose bytes no memory bears"))
    let newCap ← Go.choose (.appendCap need sCap el)
    Go.askRoom (newCap * (← Go.typeInfo el).bytes)
    let old ← Go.Builtin.firstCells size sLen (.slice base sLen sCap)
    let new ← appended
    let rest := Go.Builtin.zeroCells (← Go.zeroValue el).cells (newCap - need)
    pure (.slice (some (← Go.newRow el (old ++ new ++ rest))) need newCap)

theorem core_place {el : TypeId} {size sLen sCap n : Nat} {base : Option Addr} {zeros : Bool} {x : Value} {appended : Go.Sem (Array Value)} {us : List Value} (happ : appended.run P w = .ok us.toArray w) (hle : sLen + n ≤ sCap)
    (hst : (match base with | some a => (Go.storeCells (a.add (sLen * size)) us).run P w | none => .ok () w) = .ok () w') :
    (appCore el size base sLen sCap n zeros x appended).run P w = .ok (.slice base (sLen + n) sCap) w' := by
  unfold appCore
  simp only [hle, if_true, Go.Sem.run_bind, happ, Go.Result.andThen_ok]
  cases base with
  | none => simp at hst; subst hst; simp
  | some a => simp only [] at hst; simp [hst]

theorem core_grow {el : TypeId} {size bytes sLen sCap n : Nat} {base : Option Addr} {zeros : Bool} {x : Value} {appended : Go.Sem (Array Value)} {us old : List Value} {zv : Value}
    (happ : ∀ w, w.heap = w'.heap → appended.run P w = .ok us.toArray w) (hgt : ¬ sLen + n ≤ sCap) (hb : bytesOfT P el = some bytes) (hr : roomOk (sLen + n) bytes = true) (hw : w.heap = w'.heap)
    (hold : ∀ w, w.heap = w'.heap → (Go.Builtin.firstCells size sLen (.slice base sLen sCap)).run P w = .ok old.toArray w) (hz : ∀ w, (Go.zeroValue el).run P w = .ok zv w) :
    ∃ cap w1, sLen + n ≤ cap ∧ w1 = { w with heap := w.heap.push (.cells (old.toArray ++ us.toArray ++ Go.Builtin.zeroCells zv.cells (cap - (sLen + n))) el (0, 0)), drawn := w1.drawn } ∧
      (appCore el size base sLen sCap n zeros x appended).run P w = .ok (.slice (some ⟨w.heap.size, 0, none⟩) (sLen + n) cap) w1 := by
  obtain ⟨i, hi, rfl⟩ : ∃ i, P.info? el = some i ∧ i.bytes = bytes := Option.map_eq_some_iff.1 hb
  obtain ⟨h1, h2, h3⟩ := room_next hr (c := sCap) (by omega)
  have hf : (Go.Question.appendCap (sLen + n) sCap el).forced = false := rfl
  let w0 : World := { w with drawn := w.drawn + 1 }
  let cap := (Go.Question.appendCap (sLen + n) sCap el).cut (w.tape w.drawn (Go.Question.appendCap (sLen + n) sCap el))
  refine ⟨cap, { w0 with heap := w0.heap.push (.cells (old.toArray ++ us.toArray ++ Go.Builtin.zeroCells zv.cells (cap - (sLen + n))) el (0, 0)) }, ?_, rfl, ?_⟩
  · show sLen + n ≤ (sLen + n) + _
    omega
  · have e1 : ({ w with drawn := w.drawn + 1 } : World).heap = w'.heap := hw
    unfold appCore
    simp only [hgt, if_false, Go.Sem.run_bind, run_info hi, Go.Result.andThen_ok, h2, h1, false_and, Go.Sem.run_pure, Go.run_choose, hf, Bool.false_eq_true, Go.run_askRoom, hold _ e1, happ _ e1, hz, Go.newRow, Go.run_newObj]
    rfl

end Am

/- AmApp2: append, whole. -/
namespace Am
set_option linter.unusedVariables false
set_option linter.unusedSimpArgs false
open Go (IntKind BinOp UnOp Value Program TypeId TypeDesc Operand Oper Code Tmp World Addr Obj Act)

variable {P : Program} {C : Cx} {B : Nat} {e e' : Emb} {h h' : H} {w w' : World}

theorem VRR.append {k : Nat} {xs ys : List (List V)} {us ws : List Value} (h1 : VRR e k xs us) (h2 : VRR e k ys ws) : VRR e k (xs ++ ys) (us ++ ws) := by
  refine ⟨by simp [h1.len, h2.len, Nat.add_mul], fun r row hr => ?_⟩
  rw [List.getElem?_append] at hr
  by_cases hlt : r < xs.length
  · rw [if_pos hlt] at hr
    obtain ⟨a, b⟩ := h1.row r row hr
    refine ⟨a, fun j v hj => ?_⟩
    obtain ⟨u, hu, hv⟩ := b j v hj
    exact ⟨u, by rw [List.getElem?_append_left (List.getElem?_eq_some_iff.1 hu).1]; exact hu, hv⟩
  · rw [if_neg hlt] at hr
    obtain ⟨a, b⟩ := h2.row _ row hr
    refine ⟨a, fun j v hj => ?_⟩
    obtain ⟨u, hu, hv⟩ := b j v hj
    refine ⟨u, ?_, hv⟩
    have e1 : r * k + j = us.length + ((r - xs.length) * k + j) := by
      rw [h1.len, ← Nat.add_assoc, ← Nat.add_mul]
      congr 2; omega
    rw [e1, List.getElem?_append_right (by omega)]
    simpa using hu

/-- Behind an append that went in place where that was not known ahead. -/
theorem rows_place {l : Loc} {k r len : Nat} {all new : List (List V)} {us : List Value} (hB : BlkR C e (.rows k all false) l w) (hr : VRR e k new us) (hroom : r + len + new.length ≤ l.top) (hlen : len = 0 ∨ r + len ≤ all.length) :
    Free w l.cb (l.sh + (r + len) * k) us.length ∧
      BlkR C e (.rows k ((if len = 0 then [] else (all.drop r).take len) ++ new) false) ⟨l.cb, l.sh + r * k, k, l.top - r⟩ (w.setCells l.cb (l.sh + (r + len) * k) us) := by
  obtain ⟨⟨hk, hk0, hrm⟩, hrows⟩ := hB
  have hroom' := hrm rfl
  have hfree : Free w l.cb (l.sh + (r + len) * k) us.length := fun j hj => by
    have hlt : (r + len) * k + j < l.top * l.k := by
      rw [hk]
      have : (r + len + new.length) * k ≤ l.top * k := Nat.mul_le_mul_right k hroom
      rw [Nat.add_mul] at this
      rw [hr.len] at hj; omega
    have := hroom'.1 _ hlt
    rw [Nat.add_assoc]; exact this
  refine ⟨hfree, ⟨rfl, hk0, fun _ => ⟨fun q hq => ?_, mild_set (l := l) _ _ _ _ hroom'.2⟩⟩, fun p row hp => ?_⟩
  · have hlt : r * k + q < l.top * l.k := by
      rw [hk]
      simp only at hq
      rw [Nat.sub_mul] at hq; omega
    have := (room_set (cb := l.cb) (o := l.sh + (r + len) * k) (us := us) hroom').1 _ hlt
    simp only
    rw [Nat.add_assoc]; exact this
  · have hold : ∀ row, p < len → all[r + p]? = some row → row.length = k ∧ ∀ (j : Nat) (v : V), row[j]? = some v →
        ∃ u, cellAt (w.setCells l.cb (l.sh + (r + len) * k) us) l.cb (l.sh + r * k + p * k + j) = some u ∧ CR e v u ∧ (false = false → cold (w.setCells l.cb (l.sh + (r + len) * k) us) l.cb (l.sh + r * k + p * k + j)) := by
      intro row hp hrow
      obtain ⟨a, b⟩ := hrows _ row hrow
      refine ⟨a, fun j v hj => ?_⟩
      obtain ⟨u, hu, hv, hc⟩ := b j v hj
      have hjk : j < k := by rw [← a]; exact (List.getElem?_eq_some_iff.1 hj).1
      have e1 : l.sh + (r + p) * k + j = l.sh + r * k + p * k + j := by rw [Nat.add_mul]; omega
      rw [e1] at hu hc
      refine ⟨u, ?_, hv, fun _ => cold_set _ (hc rfl)⟩
      rw [cell_out _ ?_]; exact hu
      have : (p + 1) * k ≤ len * k := Nat.mul_le_mul_right k hp
      rw [Nat.add_mul] at this
      rw [Nat.add_mul]; left; omega
    have hnew : ∀ q row, p = len + q → new[q]? = some row → row.length = k ∧ ∀ (j : Nat) (v : V), row[j]? = some v →
        ∃ u, cellAt (w.setCells l.cb (l.sh + (r + len) * k) us) l.cb (l.sh + r * k + p * k + j) = some u ∧ CR e v u ∧ (false = false → cold (w.setCells l.cb (l.sh + (r + len) * k) us) l.cb (l.sh + r * k + p * k + j)) := by
      intro q row hp hrow
      obtain ⟨a, b⟩ := hr.row q row hrow
      refine ⟨a, fun j v hj => ?_⟩
      obtain ⟨u, hu, hv⟩ := b j v hj
      have e1 : l.sh + (r + len) * k + (q * k + j) = l.sh + r * k + p * k + j := by subst hp; rw [Nat.add_mul, Nat.add_mul]; omega
      have h2 := cell_in hfree _ u hu
      have h3 := (hfree _ (List.getElem?_eq_some_iff.1 hu).1).2
      rw [e1] at h2 h3
      exact ⟨u, h2, hv, fun _ => cold_set _ h3⟩
    by_cases h0 : len = 0
    · rw [if_pos h0] at hp
      exact hnew p row (by omega) (by simpa using hp)
    · rw [if_neg h0] at hp
      have hl2 : ((all.drop r).take len).length = len := by simp; omega
      rw [List.getElem?_append] at hp
      rw [hl2] at hp
      by_cases hpl : p < len
      · rw [if_pos hpl, List.getElem?_take_of_lt hpl, List.getElem?_drop] at hp
        exact hold row hpl hp
      · rw [if_neg hpl] at hp
        exact hnew (p - len) row (by omega) hp

theorem appRows_sound {el : TypeId} {k bytes len cap : Nat} {ex zeros : Bool} {a : Option (Nat × Nat)} {new : List (List V)} {us : List Value} {v : V} {sv x zv : Value} {appended : Go.Sem (Array Value)}
    (s : Sim C B e h w) (hev : appRows h k bytes a len cap ex new = some (v, h')) (hv : VR e (.sl a len cap ex) sv) (hnew : VRR e k new us) (hk0 : 0 < k)
    (hby : bytesOfT P el = some bytes) (hz : ∀ w, (Go.zeroValue el).run P w = .ok zv w) (hzk : zv.cells.size = k) (happ : ∀ w2 : World, w2.heap = w.heap → appended.run P w2 = .ok us.toArray w2) :
    ∃ A c u w' e', sv = .slice A len c ∧ (appCore el k A len c new.length zeros x appended).run P w = .ok u w' ∧ VR e' v u ∧ Stp C B e h w e' h' w' := by
  have h1 := hnew.cells
  unfold appRows at hev
  by_cases hle : len + new.length ≤ cap
  · rw [if_pos hle] at hev
    obtain ⟨h2, hput, hev⟩ := Option.bind_eq_some_iff.1 hev
    cases hev
    obtain ⟨A, c, w', rfl, hst, hstp⟩ := rput_sound (P := P) s hput hv hnew (by omega)
    have hc : len + new.length ≤ c := by
      cases hv with
      | sl0 => exact hle
      | sl _ _ _ _ _ _ _ _ _ _ h3 => omega
    refine ⟨A, c, _, w', e, rfl, core_place (happ w rfl) hc (by cases A <;> exact hst), ?_, hstp⟩
    cases hv with
    | sl0 =>
      have : new.length = 0 := by omega
      rw [this]; exact .sl0 ex
    | sl b r _ _ _ _ l A hl h2 h3 h4 h5 => exact .sl b r _ _ _ _ l A hl hle h3 h4 h5
  · rw [if_neg hle] at hev
    split at hev
    · rename_i hroom
      obtain ⟨old, hold, hev⟩ := Option.bind_eq_some_iff.1 hev
      obtain ⟨h2, hlose, hev⟩ := Option.bind_eq_some_iff.1 hev
      cases hev
      obtain ⟨holdl, uo, A, c, huo, rfl, hlies⟩ := rseg_sound s hold hv (Nat.le_refl _)
      -- the case that grows
      have grow : ¬ len + new.length ≤ c → Sim C B e h2 w → Stp C B e h w e h2 w → ∃ A' c' u w' e', (Value.slice A len c) = .slice A' len c' ∧ (appCore el k A' len c' new.length zeros x appended).run P w = .ok u w' ∧
          VR e' (.sl (some (h2.nx, 0)) (len + new.length) (len + new.length) false) u ∧ Stp C B e h w e' (h2.push (.rows k (old ++ new) false)) w' := by
        intro hgt s2 st2
        have hf : ∀ w2 : World, w2.heap = w.heap → (Go.Builtin.firstCells k len (.slice A len c)).run P w2 = .ok uo.toArray w2 := fun w2 hw2 =>
          first_rows len (by rw [huo.len, holdl]) (by
            rcases hlies with h0 | ⟨cb, o, hA, hl⟩
            · exact .inl h0
            · exact .inr ⟨cb, o, hA, fun j u hj => by have := hl j u hj; simpa only [World.cell?, hw2] using this⟩)
        obtain ⟨cp, w1, hcp, hlaid, hrun⟩ := core_grow (P := P) (el := el) (size := k) (zeros := zeros) (x := x) (w' := w) happ hgt hby hroom rfl hf hz
        have hheap := laid_heap hlaid
        have hcells : ∀ e', e.le e' → BlkR C e' (.rows k (old ++ new) false) ⟨w.heap.size, 0, k, cp⟩ w1 := fun e' he => by
          refine blk_rows hk0 ((huo.append hnew).mono he) (push_get hheap) (fun j u hj => ?_) ?_ (fun j _ hx => by have := hx.2; simp at this)
          · have hlt : j < (uo ++ us).length := (List.getElem?_eq_some_iff.1 hj).1
            rw [← List.getElem?_toArray] at hj
            rw [Array.getElem?_append_left (by simpa using hlt)]
            simpa using hj
          · simp only [Array.size_append, zeroCells_size, hzk]
            have e1 : uo.toArray.size + us.toArray.size = (len + new.length) * k := by simp [huo.len, hnew.len, holdl, Nat.add_mul]
            rw [e1, ← Nat.add_mul]
            have : cp * k ≤ (len + new.length + (cp - (len + new.length))) * k := Nat.mul_le_mul_right k (by omega)
            exact this
        have st3 := Stp.fresh s2 hheap hcells (laid_sky hlaid)
        refine ⟨A, c, _, w1, _, rfl, hrun, ?_, st2.trans st3⟩
        refine .sl _ 0 _ _ cp false ⟨w.heap.size, 0, k, cp⟩ _ (Emb.add_same _ _ _) (Nat.le_refl _) hcp (by simp) (fun _ => ⟨by simp, by simp⟩)
      unfold H.loseR at hlose
      by_cases hex : ex = true
      · rw [if_pos hex] at hlose
        simp at hlose; subst hlose
        refine grow ?_ s (Stp.refl s)
        cases hv with
        | sl0 => omega
        | sl _ _ _ _ _ _ _ _ _ _ h3 h4 => have := h4 hex; omega
      · rw [if_neg hex] at hlose
        cases a with
        | none =>
          simp at hlose; subst hlose
          refine grow ?_ s (Stp.refl s)
          cases hv with
          | sl0 => omega
        | some br =>
          obtain ⟨b, r⟩ := br
          simp only at hlose
          split at hlose
          · rename_i k' all hb
            split at hlose
            · rename_i hkk
              subst hkk
              simp at hlose; subst hlose
              by_cases hgt : len + new.length ≤ c
              · -- in place after all
                cases hv with
                | sl _ _ _ _ _ _ l A hl h2 h3 h4 h5 =>
                  have hc0 : c ≠ 0 := by omega
                  obtain ⟨hA, htop⟩ := h5 hc0
                  obtain ⟨l', hl', hB, hlt, ho⟩ := s.blk b _ hb
                  rw [hl] at hl'; cases hl'
                  have hk := hB.1.1
                  have hlen : len = 0 ∨ r + len ≤ all.length := by
                    unfold H.rseg at hold
                    by_cases h0 : len = 0
                    · exact .inl h0
                    · rw [if_neg h0] at hold
                      simp only [hb] at hold
                      split at hold
                      · rename_i hx; exact .inr hx.2
                      · simp at hold
                  have hseg : old = if len = 0 then [] else (all.drop r).take len := by
                    unfold H.rseg at hold
                    by_cases h0 : len = 0
                    · rw [if_pos h0] at hold ⊢; simp at hold; exact hold
                    · rw [if_neg h0] at hold ⊢
                      simp only [hb] at hold
                      split at hold
                      · simp at hold; exact hold.symm
                      · simp at hold
                  obtain ⟨hfree, _⟩ := rows_place (r := r) (len := len) hB hnew (by omega) hlen
                  have hB' := (rows_place (C := C) (r := r) (len := len) (hB.mono (Emb.le_add (b := h.nx) ⟨l.cb, l.sh + r * k', k', l.top - r⟩ s.fresh)) (hnew.mono (Emb.le_add _ s.fresh)) (by omega) hlen).2
                  rw [← hseg] at hB'
                  have hst := hfree.store (P := P) h1
                  have st := Stp.replace s (b := b) (x' := .rows k' (old ++ new) false) (l' := ⟨l.cb, l.sh + r * k', k', l.top - r⟩) hb rfl hl rfl
                    (fun q hq => setCells_heap _ _ (l.sh + (r + len) * k') w q hq) (setCells_size _ _ _ _) hB' (setCells_sky _ _ _ _)
                  refine ⟨some A, c, _, _, _, rfl, core_place (happ w rfl) hgt (w' := w.setCells l.cb (l.sh + (r + len) * k') us) ?_, ?_, st⟩
                  · have hadd : A.add (len * k') = ⟨l.cb, l.sh + (r + len) * k', none⟩ := by
                      rw [hA, add_mk, hk, Nat.add_mul, Nat.add_assoc]
                    simp only [hadd]; exact hst
                  · exact .sl _ 0 _ _ c false ⟨l.cb, l.sh + r * k', k', l.top - r⟩ A (Emb.add_same _ _ _) (Nat.le_refl _) hgt (by simp) (fun _ => ⟨by rw [hA, hk]; simp, by simp; omega⟩)
              · exact grow hgt (s.kill b) (Stp.kill s b)
            · simp at hlose
          · simp at hlose
    · simp at hev

end Am

/- AmApp3: append of bytes. -/
namespace Am
set_option linter.unusedVariables false
set_option linter.unusedSimpArgs false
open Go (IntKind BinOp UnOp Value Program TypeId TypeDesc Operand Oper Code Tmp World Addr Obj Act)

variable {P : Program} {C : Cx} {B : Nat} {e e' : Emb} {h h' : H} {w w' : World}

abbrev bcells (bs : List UInt8) : List Value := bs.map fun (c : UInt8) => Value.int .u8 c.toNat
theorem bcells_one (bs : List UInt8) : ∀ u ∈ bcells bs, u.oneCell' = true := by simp [bcells, Go.Value.oneCell']

theorem first_bytes {len c : Nat} {A : Option Addr} {bs : List UInt8} (n : Nat) (hk : bs.length = n) (hl : n = 0 ∨ ∃ cb o, A = some ⟨cb, o, none⟩ ∧ Lies w cb o (bcells bs)) :
    (Go.Builtin.firstCells 1 n (.slice A len c)).run P w = .ok (bcells bs).toArray w :=
  first_rows n (by simp [bcells, hk]) hl

theorem bytes_place {l : Loc} {r len : Nat} {all new : List UInt8} (hB : BlkR C e (.bytes all false) l w) (hroom : r + len + new.length ≤ l.top) (hlen : len = 0 ∨ r + len ≤ all.length) :
    Free w l.cb (l.sh + (r + len)) (bcells new).length ∧
      BlkR C e (.bytes ((if len = 0 then [] else (all.drop r).take len) ++ new) false) ⟨l.cb, l.sh + r, 1, l.top - r⟩ (w.setCells l.cb (l.sh + (r + len)) (bcells new)) := by
  obtain ⟨⟨hk, hrm⟩, hbs⟩ := hB
  have hroom' := hrm rfl
  have hn : (bcells new).length = new.length := by simp [bcells]
  have hfree : Free w l.cb (l.sh + (r + len)) (bcells new).length := fun j hj => by
    have hlt : r + len + j < l.top * l.k := by rw [hk]; omega
    have := hroom'.1 _ hlt
    rw [Nat.add_assoc]; exact this
  refine ⟨hfree, ⟨rfl, fun _ => ⟨fun q hq => ?_, mild_set (l := l) _ _ _ _ hroom'.2⟩⟩, fun p x hp => ?_⟩
  · have hlt : r + q < l.top * l.k := by rw [hk]; simp only at hq; omega
    have := (room_set (cb := l.cb) (o := l.sh + (r + len)) (us := bcells new) hroom').1 _ hlt
    simp only
    rw [Nat.add_assoc]; exact this
  · have hold : p < len → all[r + p]? = some x → cellAt (w.setCells l.cb (l.sh + (r + len)) (bcells new)) l.cb (l.sh + r + p) = some (.int .u8 x.toNat) ∧
        (false = false → cold (w.setCells l.cb (l.sh + (r + len)) (bcells new)) l.cb (l.sh + r + p)) := by
      intro hpl hx
      obtain ⟨h1, h2⟩ := hbs _ x hx
      rw [← Nat.add_assoc] at h1 h2
      refine ⟨?_, fun _ => cold_set _ (h2 rfl)⟩
      rw [cell_out _ (by omega)]; exact h1
    have hnew : ∀ q, p = len + q → new[q]? = some x → cellAt (w.setCells l.cb (l.sh + (r + len)) (bcells new)) l.cb (l.sh + r + p) = some (.int .u8 x.toNat) ∧
        (false = false → cold (w.setCells l.cb (l.sh + (r + len)) (bcells new)) l.cb (l.sh + r + p)) := by
      intro q hp hx
      have hu : (bcells new)[q]? = some (.int .u8 x.toNat) := by simp [bcells, hx]
      have h2 := cell_in hfree _ _ hu
      have h3 := (hfree _ (List.getElem?_eq_some_iff.1 hu).1).2
      have e1 : l.sh + (r + len) + q = l.sh + r + p := by omega
      rw [e1] at h2 h3
      exact ⟨h2, fun _ => cold_set _ h3⟩
    by_cases h0 : len = 0
    · rw [if_pos h0] at hp
      exact hnew p (by omega) (by simpa using hp)
    · rw [if_neg h0] at hp
      have hl2 : ((all.drop r).take len).length = len := by simp; omega
      rw [List.getElem?_append] at hp
      rw [hl2] at hp
      by_cases hpl : p < len
      · rw [if_pos hpl, List.getElem?_take_of_lt hpl, List.getElem?_drop] at hp
        exact hold hpl hp
      · rw [if_neg hpl] at hp
        exact hnew (p - len) (by omega) hp

theorem appBytes_sound {el : TypeId} {bytes len cap : Nat} {ex zeros : Bool} {a : Option (Nat × Nat)} {new : List UInt8} {v : V} {sv x zv : Value} {appended : Go.Sem (Array Value)}
    (s : Sim C B e h w) (hev : appBytes h bytes a len cap ex new = some (v, h')) (hv : VR e (.sl a len cap ex) sv)
    (hby : bytesOfT P el = some bytes) (hz : ∀ w, (Go.zeroValue el).run P w = .ok zv w) (hzk : zv.cells.size = 1) (happ : ∀ w2 : World, w2.heap = w.heap → appended.run P w2 = .ok (bcells new).toArray w2) :
    ∃ A c u w' e', sv = .slice A len c ∧ (appCore el 1 A len c new.length zeros x appended).run P w = .ok u w' ∧ VR e' v u ∧ Stp C B e h w e' h' w' := by
  have hnl : (bcells new).length = new.length := by simp [bcells]
  unfold appBytes at hev
  by_cases hle : len + new.length ≤ cap
  · rw [if_pos hle] at hev
    obtain ⟨h2, hput, hev⟩ := Option.bind_eq_some_iff.1 hev
    cases hev
    obtain ⟨A, c, w', rfl, hst, hstp⟩ := bput_sound (P := P) s hput hv (by omega)
    have hc : len + new.length ≤ c := by
      cases hv with
      | sl0 => exact hle
      | sl _ _ _ _ _ _ _ _ _ _ h3 => omega
    refine ⟨A, c, _, w', e, rfl, core_place (happ w rfl) hc (by cases A <;> simpa using hst), ?_, hstp⟩
    cases hv with
    | sl0 =>
      have : new.length = 0 := by omega
      rw [this]; exact .sl0 ex
    | sl b r _ _ _ _ l A hl h2 h3 h4 h5 => exact .sl b r _ _ _ _ l A hl hle h3 h4 h5
  · rw [if_neg hle] at hev
    split at hev
    · rename_i hroom
      obtain ⟨old, hold, hev⟩ := Option.bind_eq_some_iff.1 hev
      obtain ⟨h2, hlose, hev⟩ := Option.bind_eq_some_iff.1 hev
      cases hev
      obtain ⟨holdl, A, c, rfl, hlies⟩ := bseg_sound s hold hv (Nat.le_refl _)
      have grow : ¬ len + new.length ≤ c → Sim C B e h2 w → Stp C B e h w e h2 w → ∃ A' c' u w' e', (Value.slice A len c) = .slice A' len c' ∧ (appCore el 1 A' len c' new.length zeros x appended).run P w = .ok u w' ∧
          VR e' (.sl (some (h2.nx, 0)) (len + new.length) (len + new.length) false) u ∧ Stp C B e h w e' (h2.push (.bytes (old ++ new) false)) w' := by
        intro hgt s2 st2
        have hf : ∀ w2 : World, w2.heap = w.heap → (Go.Builtin.firstCells 1 len (.slice A len c)).run P w2 = .ok (bcells old).toArray w2 := fun w2 hw2 =>
          first_bytes len holdl (by
            rcases hlies with h0 | ⟨cb, o, hA, hl⟩
            · exact .inl h0
            · exact .inr ⟨cb, o, hA, fun j u hj => by have := hl j u hj; simpa only [World.cell?, hw2] using this⟩)
        obtain ⟨cp, w1, hcp, hlaid, hrun⟩ := core_grow (P := P) (el := el) (size := 1) (zeros := zeros) (x := x) (w' := w) happ hgt hby hroom rfl hf hz
        have hheap := laid_heap hlaid
        have hcells : ∀ e', e.le e' → BlkR C e' (.bytes (old ++ new) false) ⟨w.heap.size, 0, 1, cp⟩ w1 := fun e' _ => by
          refine blk_bytes (push_get hheap) (fun j u hj => ?_) ?_ (fun j _ hx => by have := hx.2; simp at this)
          · have hlt : j < (old ++ new).length := (List.getElem?_eq_some_iff.1 hj).1
            have hj2 : (bcells old ++ bcells new)[j]? = some (.int .u8 u.toNat) := by
              simp only [bcells, ← List.map_append, List.getElem?_map, hj]; rfl
            rw [← List.getElem?_toArray] at hj2
            rw [Array.getElem?_append_left (by simp [bcells] at hlt ⊢; exact hlt)]
            simpa using hj2
          · simp only [Array.size_append, zeroCells_size, hzk]
            simp [bcells]; omega
        have st3 := Stp.fresh s2 hheap hcells (laid_sky hlaid)
        refine ⟨A, c, _, w1, _, rfl, hrun, ?_, st2.trans st3⟩
        refine .sl _ 0 _ _ cp false ⟨w.heap.size, 0, 1, cp⟩ _ (Emb.add_same _ _ _) (Nat.le_refl _) hcp (by simp) (fun _ => ⟨by simp, by simp⟩)
      unfold H.loseB at hlose
      by_cases hex : ex = true
      · rw [if_pos hex] at hlose
        simp at hlose; subst hlose
        refine grow ?_ s (Stp.refl s)
        cases hv with
        | sl0 => omega
        | sl _ _ _ _ _ _ _ _ _ _ h3 h4 => have := h4 hex; omega
      · rw [if_neg hex] at hlose
        cases a with
        | none =>
          simp at hlose; subst hlose
          refine grow ?_ s (Stp.refl s)
          cases hv with
          | sl0 => omega
        | some br =>
          obtain ⟨b, r⟩ := br
          simp only at hlose
          split at hlose
          · rename_i all hb
            simp at hlose; subst hlose
            by_cases hgt : len + new.length ≤ c
            · cases hv with
              | sl _ _ _ _ _ _ l A hl h2 h3 h4 h5 =>
                have hc0 : c ≠ 0 := by omega
                obtain ⟨hA, htop⟩ := h5 hc0
                obtain ⟨l', hl', hB, hlt, ho⟩ := s.blk b _ hb
                rw [hl] at hl'; cases hl'
                have hk := hB.1.1
                have hlen : len = 0 ∨ r + len ≤ all.length := by
                  unfold H.bseg at hold
                  by_cases h0 : len = 0
                  · exact .inl h0
                  · rw [if_neg h0] at hold
                    simp only [hb] at hold
                    split at hold
                    · rename_i hx; exact .inr hx
                    · simp at hold
                have hseg : old = if len = 0 then [] else (all.drop r).take len := by
                  unfold H.bseg at hold
                  by_cases h0 : len = 0
                  · rw [if_pos h0] at hold ⊢; simp at hold; exact hold
                  · rw [if_neg h0] at hold ⊢
                    simp only [hb] at hold
                    split at hold
                    · simp at hold; exact hold.symm
                    · simp at hold
                obtain ⟨hfree, _⟩ := bytes_place (r := r) (len := len) (new := new) hB (by omega) hlen
                have hB' := (bytes_place (C := C) (r := r) (len := len) (new := new) (hB.mono (Emb.le_add (b := h.nx) ⟨l.cb, l.sh + r, 1, l.top - r⟩ s.fresh)) (by omega) hlen).2
                rw [← hseg] at hB'
                have hst := hfree.store (P := P) (bcells_one new)
                have st := Stp.replace s (b := b) (x' := .bytes (old ++ new) false) (l' := ⟨l.cb, l.sh + r, 1, l.top - r⟩) hb rfl hl rfl
                  (fun q hq => setCells_heap _ _ (l.sh + (r + len)) w q hq) (setCells_size _ _ _ _) hB' (setCells_sky _ _ _ _)
                refine ⟨some A, c, _, _, _, rfl, core_place (happ w rfl) hgt (w' := w.setCells l.cb (l.sh + (r + len)) (bcells new)) ?_, ?_, st⟩
                · have hadd : A.add (len * 1) = ⟨l.cb, l.sh + (r + len), none⟩ := by
                    rw [hA, add_mk, hk, Nat.mul_one, Nat.mul_one, Nat.add_assoc]
                  simp only [hadd]; exact hst
                · exact .sl _ 0 _ _ c false ⟨l.cb, l.sh + r, 1, l.top - r⟩ A (Emb.add_same _ _ _) (Nat.le_refl _) hgt (by simp) (fun _ => ⟨by rw [hA, hk]; simp, by simp; omega⟩)
            · exact grow hgt (s.kill b) (Stp.kill s b)
          · simp at hlose
    · simp at hev

end Am

/- AmOps2: each operation of the abstract machine against the model's: the plain ones, memory, struct and slice makers. -/
namespace Am
set_option linter.unusedVariables false
set_option linter.unusedSimpArgs false
open Go (IntKind BinOp UnOp Value Program TypeId TypeDesc Operand Oper Code Tmp World Addr Obj Act)

variable {P : Program} {C : Cx} {B : Nat} {e e' : Emb} {h h' : H} {w w' : World} {t : Tm} {ρ : Operand → Value} {o : Oper} {v : V}

/-- What an operation comes to, by its kind: a value in the world as it was; a value and one new block; a changed world. -/
def OpRes (k : OpK) (C : Cx) (B : Nat) (e : Emb) (h : H) (w : World) (r : Go.Result Go.Next) (v : V) (h' : H) : Prop :=
  match k with
  | .pure | .read => h' = h ∧ ∃ u, r = .ok (.value u) w ∧ VR e v u
  | .alloc => ∃ (u : Value) (w' : World) (o : Obj) (x : Blk) (l : Loc), r = .ok (.value u) w' ∧ w' = { w with heap := w.heap.push o, drawn := w'.drawn } ∧ l.cb = w.heap.size ∧ h' = h.push x ∧ x.own = true ∧ (∀ e', e.le e' → BlkR C e' x l w') ∧ VR (e.add h.nx l) v u
  | .eff => ∃ u w' e', (r = .ok (.value u) w' ∨ (r = .ok .skip w' ∧ u = Go.undef)) ∧ VR e' v u ∧ Stp C B e h w e' h' w'

/-- The same, of whatever kind. -/
def OpAny (C : Cx) (B : Nat) (e : Emb) (h : H) (w : World) (r : Go.Result Go.Next) (v : V) (h' : H) : Prop :=
  ∃ u w' e', (r = .ok (.value u) w' ∨ (r = .ok .skip w' ∧ u = Go.undef)) ∧ VR e' v u ∧ Stp C B e h w e' h' w'

theorem OpRes.any {k : OpK} (s : Sim C B e h w) {r : Go.Result Go.Next} (hr : OpRes k C B e h w r v h') : OpAny C B e h w r v h' := by
  cases k with
  | pure => obtain ⟨rfl, u, h1, h2⟩ := hr; exact ⟨u, w, e, .inl h1, h2, Stp.refl s⟩
  | read => obtain ⟨rfl, u, h1, h2⟩ := hr; exact ⟨u, w, e, .inl h1, h2, Stp.refl s⟩
  | alloc =>
    obtain ⟨u, w', o, x, l, h1, h20, h3, rfl, h5, h6, h7⟩ := hr
    have h2 := laid_heap h20
    refine ⟨u, w', _, .inl h1, h7, Stp.push s x l (Nat.le_of_eq h3.symm) (fun c hc => ?_) ?_ (h6 _ (Emb.le_add l s.fresh)) (laid_sky h20)⟩
    · rw [h2]; simp [Array.getElem?_push, Nat.ne_of_lt hc]
    · rw [h2, h3]; simp
  | eff => exact hr

theorem OpRes.pure (_ : Sim C B e h w) {r : Go.Result Go.Next} {u : Value} (hr : r = .ok (.value u) w) (hv : VR e v u) : OpRes .pure C B e h w r v h := ⟨rfl, u, hr, hv⟩
theorem OpRes.read (_ : Sim C B e h w) {r : Go.Result Go.Next} {u : Value} (hr : r = .ok (.value u) w) (hv : VR e v u) : OpRes .read C B e h w r v h := ⟨rfl, u, hr, hv⟩

theorem VR.b_inv {x : Bool} {u : Value} (h : VR e (.b x) u) : u = .bool x := by cases h; rfl
theorem VR.i_inv {k : IntKind} {n : Int} {u : Value} (h : VR e (.i k n) u) : u = .int k n := by cases h; rfl
theorem VR.s_inv {l : List UInt8} {u : Value} (h : VR e (.s l) u) : ∃ s : ByteArray, u = .string s ∧ s.data.toList = l := by cases h; exact ⟨_, rfl, rfl⟩
theorem VR.p_inv {b r f : Nat} {u : Value} (h : VR e (.p (some (b, r, f))) u) : ∃ l, e b = some l ∧ u = .pointer (some ⟨l.cb, l.sh + r * l.k + f, none⟩) := by
  cases h with | p _ _ _ l h => exact ⟨l, h, rfl⟩
theorem VR.agg_inv {vs : List V} {u : Value} (h : VR e (.agg vs) u) : ∃ ws : Array Value, u = .agg ws ∧ VRL e vs ws.toList := by cases h with | agg _ ws h => exact ⟨ws, rfl, h⟩

theorem aggOf_sound {g : Bool} {vs : List V} {us : List Value} (hv : VRL e vs us) (h : aggOf g vs = some v) : (g = true ∧ VR e v (.agg us.toArray)) ∨ (g = false ∧ ∃ u, us = [u] ∧ VR e v u) := by
  unfold aggOf at h
  cases g with
  | true => simp at h; subst h; exact .inl ⟨rfl, .agg _ _ (by simpa using hv)⟩
  | false =>
    simp at h
    split at h
    · simp at h; subst h
      cases hv with
      | cons _ u _ _ h1 h2 => cases h2; exact .inr ⟨rfl, u, rfl, h1⟩
    · simp at h

/-! ### Loads and stores -/
theorem loadVar_sound (s : Sim C B e h w) {ty : TypeId} {n b r f : Nat} {g : Bool} {l : Loc} {vs : List V} (hz : szOf P ty = some n) (hg : aggT P ty = some g) (hgn : g = true ∨ n = 1)
    (hl : e b = some l) (hr : h.rd b r f n = some vs) (ha : aggOf g vs = some v) : ∃ u, (Go.loadVar ty ⟨l.cb, l.sh + r * l.k + f, none⟩).run P w = .ok u w ∧ VR e v u := by
  obtain ⟨us, hlen, hvs, hlies⟩ := rd_sound s hl hr
  rcases aggOf_sound hvs ha with ⟨rfl, hv⟩ | ⟨rfl, u, rfl, hv⟩
  · refine ⟨_, ?_, hv⟩
    have := hlies.load (P := P)
    rw [hlen] at this
    simp [Go.loadVar, run_agg hg, run_sz hz, this]
  · refine ⟨u, ?_, hv⟩
    have := hlies 0 u (by simp)
    simp only [Nat.add_zero] at this
    simp [Go.loadVar, run_agg hg, this]

theorem storeVar_sound (s : Sim C B e h w) {ty : TypeId} {n b r f : Nat} {l : Loc} {x : V} {u : Value} (hz : szOf P ty = some n) (hl : e b = some l) (hn : x.cells.length = n) (hw : h.wr b r f x.cells = some h') (hv : VR e x u) :
    ∃ w', (Go.storeVar ty ⟨l.cb, l.sh + r * l.k + f, none⟩ u).run P w = .ok () w' ∧ Stp C B e h w e h' w' := by
  obtain ⟨h1, h2⟩ := wr_sound (P := P) s hl hw hv.cells
  have hlen := hv.cells.length
  refine ⟨_, ?_, h2⟩
  have : u.cells.size = n := by rw [← hn, hlen]; simp
  simp [Go.storeVar, run_sz hz, this, h1]

theorem op_move {x : Operand} {y : AOpd} (ho : o.op = .move x ∨ o.op = .assign x) (s : Sim C B e h w) (hρ : OpdR e t ρ) (hy : opd x = some y) : OpRes .pure C B e h w ((Go.execOp ρ o).run P w) (t.ev y) h := by
  refine OpRes.pure s ?_ (hρ _ _ hy)
  rcases ho with ho | ho <;> simp [Go.execOp, ho]

theorem op_pick {c a b : Operand} {c' a' b' : AOpd} (ho : o.op = .pick c a b) (s : Sim C B e h w) (hρ : OpdR e t ρ) (hc : opd c = some c') (ha : opd a = some a') (hb : opd b = some b')
    (hev : (AOp.pick c' a' b').ev t.ev h = some (v, h')) : OpRes .pure C B e h w ((Go.execOp ρ o).run P w) v h' := by
  simp only [AOp.ev] at hev
  have h1 := hρ _ _ hc
  split at hev
  · rename_i x hx
    simp at hev
    obtain ⟨rfl, rfl⟩ := hev
    rw [hx] at h1
    have := h1.b_inv
    refine OpRes.pure s (u := if x then ρ a else ρ b) ?_ ?_
    · simp [Go.execOp, ho, this, Go.asBool]
    · cases x
      · exact hρ _ _ hb
      · exact hρ _ _ ha
  · simp at hev

theorem op_load {ty : TypeId} {x : Operand} {y : AOpd} {n : Nat} {g : Bool} (ho : o.op = .load ty x) (s : Sim C B e h w) (hρ : OpdR e t ρ) (hy : opd x = some y) (hz : szOf P ty = some n) (hg : aggT P ty = some g)
    (hgn : g = true ∨ n = 1) (hev : (AOp.load n g y).ev t.ev h = some (v, h')) : OpRes .read C B e h w ((Go.execOp ρ o).run P w) v h' := by
  simp only [AOp.ev] at hev
  have h1 := hρ _ _ hy
  split at hev
  · rename_i b r f hx
    obtain ⟨vs, hvs, hev⟩ := Option.bind_eq_some_iff.1 hev
    obtain ⟨v', hv', hev⟩ := Option.bind_eq_some_iff.1 hev
    cases hev
    rw [hx] at h1
    obtain ⟨l, hl, hu⟩ := h1.p_inv
    obtain ⟨u, hrun, hvu⟩ := loadVar_sound (P := P) s hz hg hgn hl hvs hv'
    exact OpRes.read s (u := u) (by simp [Go.execOp, ho, Go.Instr.loadAt, Go.Instr.sureAddr, hu, hrun]) hvu
  · simp at hev

theorem op_store {ty : TypeId} {x y : Operand} {x' y' : AOpd} {n : Nat} (ho : o.op = .store ty x y) (s : Sim C B e h w) (hρ : OpdR e t ρ) (hx : opd x = some x') (hy : opd y = some y') (hz : szOf P ty = some n)
    (hev : (AOp.store n x' y').ev t.ev h = some (v, h')) : OpRes .eff C B e h w ((Go.execOp ρ o).run P w) v h' := by
  simp only [AOp.ev] at hev
  have h1 := hρ _ _ hx
  split at hev
  · rename_i b r f hp
    split at hev
    · rename_i hn
      obtain ⟨h2, hw, hev⟩ := Option.bind_eq_some_iff.1 hev
      cases hev
      rw [hp] at h1
      obtain ⟨l, hl, hu⟩ := h1.p_inv
      obtain ⟨w', hrun, hstp⟩ := storeVar_sound (P := P) s hz hl hn hw (hρ _ _ hy)
      exact ⟨Go.undef, w', e, .inr ⟨by simp [Go.execOp, ho, Go.Instr.storeAt, Go.Instr.sureAddr, hu, hrun], rfl⟩, VR.un, hstp⟩
    · simp at hev
  · simp at hev

/-! ### New variables -/
theorem newVar_sound {ty : TypeId} {vs : List V} {u : Value} (hv : VRL e vs u.cells.toList) (hne : 0 < vs.length) (hfl : vs.all V.flat = true) :
    (Go.newVar ty u).run P w = .ok ⟨w.heap.size, 0, none⟩ { w with heap := w.heap.push (.cells u.cells ty (0, 0)) } ∧
      (∀ e', e.le e' → BlkR C e' (.rows vs.length [vs] false) ⟨w.heap.size, 0, vs.length, 1⟩ { w with heap := w.heap.push (.cells u.cells ty (0, 0)) }) ∧
      VR (e.add h.nx ⟨w.heap.size, 0, vs.length, 1⟩) (.p (some (h.nx, 0, 0))) (.pointer (some ⟨w.heap.size, 0, none⟩)) := by
  have hlen := hv.length
  refine ⟨by simp [Go.newVar, Go.newRow], fun e' he =>
    blk_rows (cs := u.cells) (el := ty) (fr := (0, 0)) hne ((VRR.one hv rfl hfl).mono he) (push_get (w := w) rfl) (fun j x hj => by simpa using hj) (by simp [hlen]) (fun j _ hx => by have := hx.2; simp at this), ?_⟩
  have := VR.p (e := e.add h.nx ⟨w.heap.size, 0, vs.length, 1⟩) h.nx 0 0 _ (Emb.add_same _ _ _)
  simpa using this

theorem op_alloc {ty : TypeId} {z : List V} (ho : o.op = .alloc ty) (_ : Sim C B e h w) (hz : zeroT P ty = some z) (hev : (AOp.alloc z).ev t.ev h = some (v, h')) : OpRes .alloc C B e h w ((Go.execOp ρ o).run P w) v h' := by
  simp only [AOp.ev] at hev
  split at hev
  · simp at hev
  · rename_i hne
    simp at hev
    obtain ⟨rfl, rfl⟩ := hev
    obtain ⟨zv, hzr, hzv⟩ := run_zero hz w
    have hz0 : 0 < z.length := List.length_pos_iff.2 (fun h0 => hne (.inl h0))
    obtain ⟨hrun, hb, hvr⟩ := newVar_sound (P := P) (C := C) (e := e) (h := h) (w := w) (ty := ty) (hzv e) hz0 (zeroT_flat hz)
    exact ⟨_, _, _, _, _, by simp [Go.execOp, ho, Go.Instr.alloc, hzr, hrun], rfl, rfl, rfl, rfl, hb, hvr⟩

theorem op_box {ty : TypeId} {x : Operand} {y : AOpd} {k : Nat} (ho : o.op = .box ty x) (_ : Sim C B e h w) (hρ : OpdR e t ρ) (hy : opd x = some y) (hev : (AOp.box k y).ev t.ev h = some (v, h')) :
    OpRes .alloc C B e h w ((Go.execOp ρ o).run P w) v h' := by
  simp only [AOp.ev] at hev
  split at hev
  · rename_i hc
    simp at hev
    obtain ⟨rfl, rfl⟩ := hev
    obtain ⟨h1, h2, h3⟩ := hc
    subst h1
    obtain ⟨hrun, hb, hvr⟩ := newVar_sound (P := P) (C := C) (e := e) (h := h) (w := w) (ty := ty) (hρ _ _ hy).cells h2 h3
    exact ⟨_, _, _, _, _, by simp [Go.execOp, ho, Go.Instr.box, hrun], rfl, rfl, rfl, rfl, hb, hvr⟩
  · simp at hev

/-! ### Pure operations on numbers, strings, tests -/
theorem bits_sound {op : BinOp} {k : IntKind} {a b n : Int} (h : bitsOp op k a b = some n) : (Go.Op.intBits op k a b).run P w = .ok (.int k n) w := by
  unfold bitsOp at h
  cases op <;> simp at h <;> subst h <;> simp [Go.Op.intBits]

theorem toList_data (s : ByteArray) : s.toList = s.data.toList := by
  unfold ByteArray.toList
  have hsz : s.data.toList.length = s.size := Array.length_toList
  have key : ∀ (n i : Nat) (acc : List UInt8), s.size - i = n → ByteArray.toList.loop s i acc = acc.reverse ++ s.data.toList.drop i := by
    intro n
    induction n with
    | zero =>
      intro i acc hn
      unfold ByteArray.toList.loop
      have : ¬ i < s.size := by omega
      rw [if_neg this]
      rw [List.drop_eq_nil_of_le (by omega)]
      simp
    | succ n ih =>
      intro i acc hn
      unfold ByteArray.toList.loop
      have hlt : i < s.size := by omega
      rw [if_pos hlt, ih (i + 1) _ (by omega)]
      have hl : i < s.data.toList.length := by omega
      have hg : s.get! i = s.data.toList[i] := by
        show s.data[i]! = _
        rw [getElem!_pos s.data i hlt]
        simp
      rw [List.drop_eq_getElem_cons hl, hg]
      simp
  have := key (s.size - 0) 0 [] rfl
  simpa using this

theorem beq_str (a b : ByteArray) : (a.toList == b.toList) = decide (a.data.toList = b.data.toList) := by
  rw [toList_data, toList_data]
  rw [Bool.eq_iff_iff]; simp

theorem bin_sound {op : BinOp} {ty : TypeId} {x y : V} {a b : Value} (hx : VR e x a) (hy : VR e y b) (hv : bin op x y = some v) : ∃ u, (Go.binOp op ty a b).run P w = .ok u w ∧ VR e v u := by
  unfold bin at hv
  split at hv
  · rename_i k a' k' b'
    have h1 := hx.i_inv; have h2 := hy.i_inv
    subst h1 h2
    have shift : ∀ op, (op = .shl ∨ op = .shr) → shiftI op k a' b' = some v → ∃ u, (Go.Op.shift op k a' k' b').run P w = .ok u w ∧ VR e v u := by
      intro op hop hs
      unfold shiftI at hs
      split at hs
      · simp at hs
      · rename_i hneg
        rcases hop with rfl | rfl <;> simp at hs <;> subst hs <;> refine ⟨_, ?_, .i _ _⟩ <;> simp [Go.Op.shift, hneg] <;> rfl
    have int : op ≠ .shl → op ≠ .shr → k = k' → binI op k a' b' = some v → ∃ u, (Go.binOp op ty (.int k a') (.int k' b')).run P w = .ok u w ∧ VR e v u := by
      intro hs1 hs2 hkk hb
      subst hkk
      unfold binI at hb
      cases op <;> simp at hb hs1 hs2 <;> first
        | (obtain ⟨n, hn, rfl⟩ := hb
           exact ⟨_, by simp only [Go.binOp, ne_eq, not_true_eq_false, if_false]; exact bits_sound hn, .i _ _⟩)
        | (obtain ⟨h0, rfl⟩ := hb
           refine ⟨_, ?_, .i _ _⟩
           simp [Go.binOp, Go.Op.intDiv, h0]; done)
        | (subst hb
           refine ⟨_, ?_, .i _ _⟩
           simp [Go.binOp, Go.Op.intArith]; done)
        | (subst hb
           refine ⟨.bool _, ?_, .b _⟩
           simp [Go.binOp, Go.Op.intCmp, bne, BEq.beq]; done)
    cases op <;> simp only at hv <;> first
      | (exact shift _ (by simp) hv)
      | (split at hv
         · rename_i hkk; exact int (by simp) (by simp) hkk hv
         · simp at hv)
  · rename_i a' b'
    obtain ⟨sa, rfl, rfl⟩ := hx.s_inv
    obtain ⟨sb, rfl, rfl⟩ := hy.s_inv
    unfold binS at hv
    cases op <;> simp at hv
    · obtain ⟨hle, rfl⟩ := hv
      refine ⟨.string (sa ++ sb), ?_, ?_⟩
      · have : ¬ (((sa.size + sb.size : Nat) : Int) > IntKind.i64.max) := by
          have h1 : IntKind.i64.max = 9223372036854775807 := by decide
          have h2 : sa.data.toList.length = sa.size := Array.length_toList
          have h3 : sb.data.toList.length = sb.size := Array.length_toList
          rw [h1]
          simp only [Array.length_toList] at hle h2 h3
          omega
        simp only [Go.binOp, Go.Op.stringOp]
        rw [if_neg this]
        rfl
      · have := VR.s (e := e) (sa ++ sb)
        simpa [ByteArray.toList_data_append] using this
    · subst hv
      refine ⟨_, by simp only [Go.binOp, Go.Op.stringOp, beq_str]; rfl, ?_⟩
      simp only [Array.toList_inj] at *
      exact .b _
    · subst hv
      refine ⟨_, by simp only [Go.binOp, Go.Op.stringOp, beq_str]; rfl, ?_⟩
      have e1 : decide (sa.data.toList = sb.data.toList) = decide (sa.data = sb.data) := by simp
      rw [e1]
      exact .b _
  · simp at hv

theorem guard_sound {op : BinOp} {ty : TypeId} {X Y : Operand} {x y : V} {a b : Value} (hx : VR e x a) (hy : VR e y b) (h : (x ≠ .nifc ∨ y ≠ .nifc) ∧ (∀ vs, x ≠ .agg vs)) : (Go.eqGuard op ty X Y a b).run P w = .ok () w := by
  unfold Go.eqGuard
  obtain ⟨h1, h2⟩ := h
  cases op <;> first
    | rfl
    | (cases hx <;> first
        | rfl
        | (exact absurd rfl (h2 _))
        | (cases hy <;> first
            | rfl
            | (simp at h1; done)))

theorem op_bin {op : BinOp} {ty yt : TypeId} {X Y : Operand} {x y : AOpd} (ho : o.op = .binOp op ty X Y yt) (s : Sim C B e h w) (hρ : OpdR e t ρ) (hx : opd X = some x) (hy : opd Y = some y)
    (hev : (AOp.bin op x y).ev t.ev h = some (v, h')) : OpRes .pure C B e h w ((Go.execOp ρ o).run P w) v h' := by
  simp only [AOp.ev] at hev
  obtain ⟨u, hu, hev⟩ := Option.bind_eq_some_iff.1 hev
  cases hev
  obtain ⟨uv, hrun, hvr⟩ := bin_sound (P := P) (w := w) (ty := ty) (hρ _ _ hx) (hρ _ _ hy) hu
  have hg := guard_sound (P := P) (w := w) (op := op) (ty := ty) (X := X) (Y := Y) (hρ _ _ hx) (hρ _ _ hy) (by
    unfold bin at hu
    split at hu
    · rename_i h1 h2; simp [h1]
    · rename_i h1 h2; simp [h1]
    · simp at hu)
  exact OpRes.pure s (u := uv) (by simp [Go.execOp, ho, hg, hrun]) hvr

theorem op_eq {op : BinOp} {ty yt : TypeId} {X Y : Operand} {x y : AOpd} {d : TypeDesc} {k : EqK} (ho : o.op = .binOp op ty X Y yt) (hop : op = .eql ∨ op = .neq) (s : Sim C B e h w) (hρ : OpdR e t ρ) (hx : opd X = some x) (hy : opd Y = some y)
    (hd : P.underlying ty = some d) (hk : eqKind d = some k) (hev : (AOp.eq (op == .neq) k x y).ev t.ev h = some (v, h')) : OpRes .pure C B e h w ((Go.execOp ρ o).run P w) v h' := by
  simp only [AOp.ev] at hev
  obtain ⟨r, hr, hev⟩ := Option.bind_eq_some_iff.1 hev
  cases hev
  have vx := hρ _ _ hx
  have vy := hρ _ _ hy
  have hg := guard_sound (P := P) (w := w) (op := op) (ty := ty) (X := X) (Y := Y) vx vy (by
    unfold eqV at hr
    split at hr <;> simp_all)
  have heq : (Go.Op.equal ty (ρ X) (ρ Y)).run P w = .ok r w := by
    unfold Go.Op.equal Go.Op.maxDepth Go.Op.equalIn
    simp only [Go.Sem.run_bind, Go.run_underlying hd, Go.Result.andThen_ok]
    generalize ρ X = a at *
    generalize ρ Y = b at *
    generalize t.ev x = xv at *
    generalize t.ev y = yv at *
    clear hg ho
    unfold eqV at hr
    unfold eqKind at hk
    split at hk <;> simp at hk <;> subst hk <;> split at hr <;> simp at hr <;> (try subst hr) <;> cases vx <;> cases vy <;> simp_all
  have hbin : (Go.binOp op ty (ρ X) (ρ Y)).run P w = .ok (.bool (if (op == .neq) then !r else r)) w := by
    generalize ρ X = a at *
    generalize ρ Y = b at *
    generalize t.ev x = xv at *
    generalize t.ev y = yv at *
    clear hg ho
    rcases hop with rfl | rfl
    · unfold eqV at hr
      split at hr <;> simp at hr <;> cases vx <;> cases vy <;> simp [Go.binOp, heq]
    · unfold eqV at hr
      split at hr <;> simp at hr <;> cases vx <;> cases vy <;> simp [Go.binOp, heq]
  exact OpRes.pure s (u := .bool _) (by simp [Go.execOp, ho, hg, hbin]) (.b _)

end Am

/- AmOps3: the operations, further: tests, conversions, cuts, places, indexes. -/
namespace Am
set_option linter.unusedVariables false
set_option linter.unusedSimpArgs false
open Go (IntKind BinOp UnOp Value Program TypeId TypeDesc Operand Oper Code Tmp World Addr Obj Act)

variable {P : Program} {C : Cx} {B : Nat} {e e' : Emb} {h h' : H} {w w' : World} {t : Tm} {ρ : Operand → Value} {o : Oper} {v : V}

theorem VR.f_inv {c : Cal} {vs : List V} {u : Value} (h : VR e (.f c vs) u) : (∃ f ws, c = .fn f ∧ u = .func (.func f) #[] ws ∧ VRL e vs ws.toList) ∨ ∃ b l, c = .yl b ∧ vs = [] ∧ u = .func (.yield l.cb) #[] #[] ∧ e b = some l := by
  cases h with
  | fn f _ ws h => exact .inl ⟨f, ws, rfl, rfl, h⟩
  | yl b l h => exact .inr ⟨b, l, rfl, rfl, rfl, h⟩
theorem VR.ifc_inv {ty : Nat} {x : V} {u : Value} (h : VR e (.ifc ty x) u) : ∃ y, u = .iface ty y ∧ VR e x y := by cases h with | ifc _ _ y h => exact ⟨y, rfl, h⟩

theorem op_nilCheck {X : Operand} {x : AOpd} (ho : o.op = .nilCheck X) (s : Sim C B e h w) (hρ : OpdR e t ρ) (hx : opd X = some x)
    (hev : (AOp.nilCheck x).ev t.ev h = some (v, h')) : OpRes .pure C B e h w ((Go.execOp ρ o).run P w) v h' := by
  simp only [AOp.ev] at hev
  have vx := hρ _ _ hx
  split at hev <;> simp at hev <;> obtain ⟨rfl, rfl⟩ := hev <;> rename_i hp <;> rw [hp] at vx
  · refine OpRes.pure s (u := ρ X) ?_ vx
    obtain ⟨l, _, hu⟩ := vx.p_inv
    simp [Go.execOp, ho, hu]
  · refine OpRes.pure s (u := ρ X) ?_ vx
    rcases vx.f_inv with ⟨f, ws, _, hu, _⟩ | ⟨b, l, _, _, hu, _⟩ <;> simp [Go.execOp, ho, hu]
  · refine OpRes.pure s (u := ρ X) ?_ vx
    obtain ⟨u, hu, _⟩ := vx.ifc_inv
    simp [Go.execOp, ho, hu]

theorem op_un {op : UnOp} {ty : TypeId} {X : Operand} {x : AOpd} (ho : o.op = .unOp op ty X) (s : Sim C B e h w) (hρ : OpdR e t ρ) (hx : opd X = some x)
    (hev : (AOp.un op x).ev t.ev h = some (v, h')) : OpRes .pure C B e h w ((Go.execOp ρ o).run P w) v h' := by
  simp only [AOp.ev] at hev
  have vx := hρ _ _ hx
  obtain ⟨r, hr, hev⟩ := Option.bind_eq_some_iff.1 hev
  cases hev
  unfold Am.un at hr
  split at hr
  · rename_i hp; rw [hp] at vx; simp at hr; subst hr
    have := vx.i_inv
    exact OpRes.pure s (u := .int _ _) (by simp [Go.execOp, ho, this, Go.Op.unary, Go.Op.intArith]) (.i _ _)
  · rename_i hp; rw [hp] at vx; simp at hr; subst hr
    have := vx.b_inv
    exact OpRes.pure s (u := .bool _) (by simp [Go.execOp, ho, this, Go.Op.unary]) (.b _)
  · rename_i hp; rw [hp] at vx
    have := vx.i_inv
    obtain ⟨n, hn, rfl⟩ := Option.map_eq_some_iff.1 hr
    exact OpRes.pure s (u := .int _ n) (by simp [Go.execOp, ho, this, Go.Op.unary, bits_sound hn]) (.i _ _)
  · simp at hr

/-! ### Conversions -/
theorem op_convI {a b : TypeId} {X : Operand} {x : AOpd} {k1 k2 : IntKind} (ho : o.op = .convert a b X) (s : Sim C B e h w) (hρ : OpdR e t ρ) (hx : opd X = some x) (ha : P.underlying a = some (.int k1)) (hb : P.underlying b = some (.int k2))
    (hev : (AOp.convI k2 x).ev t.ev h = some (v, h')) : OpRes .pure C B e h w ((Go.execOp ρ o).run P w) v h' := by
  simp only [AOp.ev] at hev
  have vx := hρ _ _ hx
  split at hev
  · rename_i hp; rw [hp] at vx; simp at hev; obtain ⟨rfl, rfl⟩ := hev
    have := vx.i_inv
    exact OpRes.pure s (u := .int _ _) (by simp [Go.execOp, ho, this, Go.convert, Go.run_underlying ha, Go.run_underlying hb, Go.Conv.intToInt]) (.i _ _)
  · simp at hev
theorem op_convSS {a b : TypeId} {X : Operand} {x : AOpd} (ho : o.op = .convert a b X) (s : Sim C B e h w) (hρ : OpdR e t ρ) (hx : opd X = some x) (ha : P.underlying a = some .string) (hb : P.underlying b = some .string)
    (hev : (AOp.convSS x).ev t.ev h = some (v, h')) : OpRes .pure C B e h w ((Go.execOp ρ o).run P w) v h' := by
  simp only [AOp.ev] at hev
  have vx := hρ _ _ hx
  split at hev
  · rename_i hp; rw [hp] at vx; simp at hev; obtain ⟨rfl, rfl⟩ := hev
    obtain ⟨b', hb', _⟩ := vx.s_inv
    exact OpRes.pure s (u := ρ X) (by simp [Go.execOp, ho, hb', Go.convert, Go.run_underlying ha, Go.run_underlying hb]) vx
  · simp at hev

theorem byte_desc {ty : TypeId} (hb : isByte P ty = some true) : P.underlying ty = some (.int .u8) := by
  unfold isByte at hb
  split at hb <;> simp_all

theorem loadBytes_run {cb off : Nat} {bs : List UInt8} (hl : Lies w cb off (bcells bs)) : (Go.loadCells ⟨cb, off, none⟩ bs.length).run P w = .ok (bcells bs).toArray w := by
  have := hl.load (P := P)
  simpa [bcells] using this

theorem bytesLoop (bs : List UInt8) (acc : ByteArray) : (forIn (bcells bs) acc (fun (c : Value) (r : ByteArray) => (match c with
      | .int .u8 n => pure (ForInStep.yield (r.push (UInt8.ofNat n.toNat)))
      | _ => do
        Go.stuck "bytesToString: byte expected"
        pure (ForInStep.yield r) : Go.Sem (ForInStep ByteArray)))).run P w = .ok ⟨acc.data ++ bs.toArray⟩ w := by
  induction bs generalizing acc with
  | nil => simp [bcells]
  | cons b bs ih =>
    simp only [bcells, List.map_cons, List.forIn_cons, Go.Sem.run_bind, Go.Sem.run_pure, Go.Result.andThen_ok]
    rw [show (List.map (fun (c : UInt8) => Value.int .u8 c.toNat) bs) = bcells bs from rfl, ih]
    congr 1
    have : UInt8.ofNat (Int.toNat (b.toNat : Int)) = b := by simp
    rw [this]
    apply ByteArray.ext
    simp [ByteArray.push]

theorem op_convBS {a b el : TypeId} {X : Operand} {x : AOpd} (ho : o.op = .convert a b X) (s : Sim C B e h w) (hρ : OpdR e t ρ) (hx : opd X = some x) (ha : P.underlying a = some (.slice el)) (hb : P.underlying b = some .string)
    (hel : isByte P el = some true) (hev : (AOp.convBS x).ev t.ev h = some (v, h')) : OpRes .read C B e h w ((Go.execOp ρ o).run P w) v h' := by
  simp only [AOp.ev] at hev
  have vx := hρ _ _ hx
  split at hev
  · rename_i a' n cp ex hp
    rw [hp] at vx
    obtain ⟨bs, hbs, hev⟩ := Option.bind_eq_some_iff.1 hev
    cases hev
    obtain ⟨hlen, A, c, hu, hl⟩ := bseg_sound s hbs vx (Nat.le_refl _)
    have key : (Go.Conv.bytesToString (.slice A n c)).run P w = .ok (.string ⟨bs.toArray⟩) w := by
      have h0 : n = 0 → bs = [] := fun h0 => List.length_eq_zero_iff.1 (by omega)
      cases A with
      | none =>
        rcases hl with hl | ⟨_, _, hA, _⟩
        · rw [h0 hl]; rfl
        · cases hA
      | some ad =>
        have hload : (Go.loadCells ad n).run P w = .ok (bcells bs).toArray w := by
          rcases hl with hl | ⟨cb, off, hA, hl⟩
          · rw [h0 hl, hl]; rfl
          · cases hA; rw [← hlen]; exact loadBytes_run hl
        simp only [Go.Conv.bytesToString, Go.Sem.run_bind, hload, Go.Result.andThen_ok]
        have := bytesLoop (P := P) (w := w) bs ByteArray.empty
        simp only [List.forIn_toArray]
        refine Eq.trans (congrArg (fun r => Go.Result.andThen r (fun a w' => Go.Sem.run P (pure (Value.string a)) w')) this) ?_
        simp
    refine OpRes.read s (u := .string ⟨bs.toArray⟩) ?_ ?_
    · simp only [Go.execOp, ho, hu, Go.convert, Go.Sem.run_bind, Go.run_underlying ha, Go.run_underlying hb, Go.run_underlying (byte_desc hel), Go.Result.andThen_ok, key, Go.Sem.run_pure]
    · exact VR.s ⟨bs.toArray⟩
  · simp at hev

theorem op_convSB {a b el : TypeId} {X : Operand} {x : AOpd} (ho : o.op = .convert a b X) (s : Sim C B e h w) (hρ : OpdR e t ρ) (hx : opd X = some x) (ha : P.underlying a = some .string) (hb : P.underlying b = some (.slice el))
    (hel : isByte P el = some true) (hev : (AOp.convSB x).ev t.ev h = some (v, h')) : OpRes .alloc C B e h w ((Go.execOp ρ o).run P w) v h' := by
  simp only [AOp.ev] at hev
  have vx := hρ _ _ hx
  split at hev
  · rename_i l hp
    rw [hp] at vx; simp at hev; obtain ⟨rfl, rfl⟩ := hev
    obtain ⟨b', hb', hl⟩ := vx.s_inv
    have hf : (Go.Question.appendCap b'.size 0 el).forced = false := rfl
    let cp := (Go.Question.appendCap b'.size 0 el).cut (w.tape w.drawn (Go.Question.appendCap b'.size 0 el))
    have hcp : b'.size ≤ cp := by show b'.size ≤ b'.size + _; omega
    let cs : Array Value := (b'.data.map fun (c : UInt8) => Value.int .u8 c.toNat) ++ Array.replicate (cp - b'.size) (.int .u8 0)
    have hsz : b'.data.size = b'.size := rfl
    have hcs : cs.size = cp := by simp [cs, hsz]; omega
    let w1 : World := { w with drawn := w.drawn + 1, heap := w.heap.push (.cells cs el (cp, cp + 1)) }
    have hrun : (Go.Conv.stringToBytes el b').run P w = .ok (.slice (some ⟨w.heap.size, 0, none⟩) b'.size cp) w1 := by
      simp only [Go.Conv.stringToBytes, Go.Sem.run_bind, Go.run_choose, hf, Bool.false_eq_true, if_false, Go.Result.andThen_ok, Go.newRow, Go.run_newObj, Go.Sem.run_pure, Go.markStringish, Go.run_shape]
      have hsh : (({ w with drawn := w.drawn + 1 } : World).heap.push (Obj.cells cs el (0, 0)))[w.heap.size]? = some (Obj.cells cs el (0, 0)) := by simp
      simp only [World.shape?]
      rw [show (({ heap := w.heap.push (Obj.cells ((Array.map (fun b => Value.int IntKind.u8 ↑b.toNat) b'.data) ++ Array.replicate ((Go.Question.appendCap b'.size 0 el).cut (w.tape w.drawn (Go.Question.appendCap b'.size 0 el)) - b'.size) (Value.int IntKind.u8 0)) el (0, 0)), tape := w.tape, drawn := w.drawn + 1, os := w.os, output := w.output } : World).heap[w.heap.size]?) = some (Obj.cells cs el (0, 0)) from hsh]
      simp only [Go.run_freeze, Go.Result.andThen_ok]
      congr 1
      simp only [World.freeze, Nat.one_ne_zero, if_false]
      simp only [w1]
      congr 1
      apply Array.ext_getElem?
      intro i
      simp only [Array.getElem?_modify, Array.getElem?_push]
      by_cases hi : w.heap.size = i
      · subst hi
        simp [hcs]
        rfl
      · rw [if_neg hi, if_neg (fun hh => hi hh.symm), if_neg (fun hh => hi hh.symm)]
    have hbk : ∀ e', e.le e' → BlkR C e' (.bytes l false) ⟨w.heap.size, 0, 1, cp⟩ w1 := fun e' _ => by
      refine blk_bytes (push_get (w := w) rfl) (fun j c hj => ?_) (Nat.le_of_eq hcs.symm) (fun j hj hx => by rw [hcs] at hj; exact absurd hx.1 (Nat.not_le.2 hj)) (.inr (Nat.le_of_eq hcs))
      have hlt : j < l.length := (List.getElem?_eq_some_iff.1 hj).1
      have h2 : b'.data[j]? = some c := by rw [← hl] at hj; simpa using hj
      have hlt2 : j < (b'.data.map fun (c : UInt8) => Value.int .u8 c.toNat).size := by simp; rw [← hl] at hlt; simpa using hlt
      rw [Array.getElem?_append_left hlt2]
      simp [h2]
    refine ⟨.slice (some ⟨w.heap.size, 0, none⟩) b'.size cp, w1, .cells cs el (cp, cp + 1), _, ⟨w.heap.size, 0, 1, cp⟩, ?_, rfl, rfl, rfl, rfl, hbk, ?_⟩
    · simp only [Go.execOp, ho, hb', Go.convert, Go.Sem.run_bind, Go.run_underlying ha, Go.run_underlying hb, Go.run_underlying (byte_desc hel), Go.Result.andThen_ok, hrun, Go.Sem.run_pure]
    · have hl2 : l.length = b'.size := by rw [← hl]; exact Array.length_toList
      rw [hl2]
      exact .sl _ 0 _ _ cp false ⟨w.heap.size, 0, 1, cp⟩ _ (Emb.add_same _ _ _) (Nat.le_refl _) hcp (by simp) (fun _ => ⟨by simp, by simp⟩)
  · simp at hev

theorem op_convRS {a b : TypeId} {k : IntKind} {X : Operand} {x : AOpd} (ho : o.op = .convert a b X) (s : Sim C B e h w) (hρ : OpdR e t ρ) (hx : opd X = some x) (ha : P.underlying a = some (.int k)) (hb : P.underlying b = some .string)
    (hev : (AOp.convRS x).ev t.ev h = some (v, h')) : OpRes .pure C B e h w ((Go.execOp ρ o).run P w) v h' := by
  simp only [AOp.ev] at hev
  have vx := hρ _ _ hx
  split at hev
  · rename_i k' n hp
    rw [hp] at vx; simp at hev; obtain ⟨rfl, rfl⟩ := hev
    have hu := vx.i_inv
    refine OpRes.pure s (u := .string (Go.Utf8.encode n)) ?_ (.s _)
    simp only [Go.execOp, ho, hu, Go.convert, Go.Sem.run_bind, Go.run_underlying ha, Go.run_underlying hb, Go.Result.andThen_ok, Go.Conv.intToString, Go.Sem.run_pure]
  · simp at hev
theorem mild_freeze {l : Loc} {w : World} {cs : Array Value} {el : TypeId} {lo hi : Nat} (hh : w.heap[l.cb]? = some (.cells cs el (lo, hi))) (hm : lo = hi ∨ cs.size ≤ lo) :
    ∃ lo' hi', (w.freeze ⟨l.cb, cs.size, none⟩ 1).heap[l.cb]? = some (.cells cs el (lo', hi')) ∧ cs.size ≤ lo' := by
  unfold World.freeze
  rw [if_neg (by decide)]
  simp only [Array.getElem?_modify, if_true, hh, Option.map_some]
  refine ⟨(if (lo == hi) = true then (cs.size, cs.size + 1) else (min lo cs.size, max hi (cs.size + 1))).1, (if (lo == hi) = true then (cs.size, cs.size + 1) else (min lo cs.size, max hi (cs.size + 1))).2, rfl, ?_⟩
  split
  · exact Nat.le_refl _
  · rename_i hne
    rcases hm with hm | hm
    · exact absurd (by simpa using hm) hne
    · simp only; omega
theorem op_convBB {a b el el0 : TypeId} {X : Operand} {x : AOpd} (ho : o.op = .convert a b X) (s : Sim C B e h w) (hρ : OpdR e t ρ) (hx : opd X = some x) (hab : a = b) (ha : P.underlying a = some (.slice el0)) (hb : P.underlying b = some (.slice el))
    (hel : isByte P el = some true) (hev : (AOp.convBB x).ev t.ev h = some (v, h')) : OpRes .eff C B e h w ((Go.execOp ρ o).run P w) v h' := by
  subst hab
  rw [hb] at ha; cases ha
  simp only [AOp.ev] at hev
  have vx := hρ _ _ hx
  split at hev
  · rename_i bl r n c ex hp
    rw [hp] at vx
    split at hev
    · rename_i bs hg
      cases hev
      generalize hu : ρ X = u at vx
      cases vx with
      | sl _ _ _ _ c' _ l ad h0 h1 h2 h3 h4 =>
        have h4 := (h4 (by omega)).1
        subst h4
        obtain ⟨l', hl', hbr, hlt, ho'⟩ := s.blk _ _ hg
        rw [h0] at hl'; cases hl'
        obtain ⟨⟨hk, hroom⟩, hcells⟩ := hbr
        obtain ⟨hr, cs, elt, lo, hi, hh, hm⟩ := hroom rfl
        obtain ⟨lo', hi', hh', hle⟩ := mild_freeze hh hm
        have hsh : w.shape? l.cb = some (elt, cs.size) := by simp only [World.shape?, hh]
        have hrun : (Go.markStringish ⟨l.cb, l.sh + r * l.k, none⟩).run P w = .ok () (w.freeze ⟨l.cb, cs.size, none⟩ 1) := by
          simp only [Go.markStringish, Go.Sem.run_bind, Go.run_shape, hsh, Go.Result.andThen_ok, Go.run_freeze]
        have hcell : ∀ q, cellAt (w.freeze ⟨l.cb, cs.size, none⟩ 1) l.cb q = cellAt w l.cb q := fun q => by simp only [cellAt, World.cell?, hh, hh']
        have hcold : ∀ q, (cellAt w l.cb q).isSome = true → cold (w.freeze ⟨l.cb, cs.size, none⟩ 1) l.cb q := fun q hq => by
          simp only [cellAt, World.cell?, hh, Option.isSome_none, Bool.false_eq_true, if_false] at hq
          have hq : q < cs.size := by
            rcases Nat.lt_or_ge q cs.size with h | h
            · exact h
            · rw [Array.getElem?_eq_none h] at hq; cases hq
          simp only [cold, World.frozen?, hh', Bool.and_eq_false_iff, decide_eq_false_iff_not]
          left; omega
        refine ⟨_, _, e, .inl ?_, VR.sl bl r n (c + 1) c' false l _ h0 h1 h2 (by simp) (fun _ => ⟨rfl, ?_⟩), Stp.set s hg rfl h0 (fun q hq => ?_) ?_ ⟨⟨hk, fun _ => ⟨fun q hq => ⟨?_, ?_⟩, cs, elt, lo', hi', hh', .inr hle⟩⟩, fun q ch hq => ⟨?_, fun _ => ?_⟩⟩ ?_⟩
        · simp only [Go.execOp, ho, hu, Go.convert, Go.Sem.run_bind, Go.run_underlying hb, Go.run_underlying (byte_desc hel), Go.Result.andThen_ok, beq_self_eq_true, hrun, Go.Sem.run_pure]
        · omega
        · unfold World.freeze
          rw [if_neg (by decide)]
          simp only [Array.getElem?_modify]
          rw [if_neg (fun hh => hq hh.symm)]
        · unfold World.freeze
          rw [if_neg (by decide)]
          simp
        · rw [hcell]; exact (hr q hq).1
        · exact hcold _ (hr q hq).1
        · rw [hcell]; exact (hcells q ch hq).1
        · exact hcold _ (by rw [(hcells q ch hq).1]; rfl)
        · unfold World.freeze
          rw [if_neg (by decide)]
          exact ⟨rfl, rfl, rfl⟩
    · simp at hev
  · simp at hev

/-! ### Makers -/
theorem op_mkI {ty : TypeId} {X : Operand} {x : AOpd} {d : TypeDesc} (ho : o.op = .makeInterface ty X) (s : Sim C B e h w) (hρ : OpdR e t ρ) (hx : opd X = some x) (hd : P.underlying ty = some d) (hn : ∀ ms, d ≠ .interface ms)
    (hev : (AOp.mkI ty x).ev t.ev h = some (v, h')) : OpRes .pure C B e h w ((Go.execOp ρ o).run P w) v h' := by
  simp only [AOp.ev] at hev
  simp at hev; obtain ⟨rfl, rfl⟩ := hev
  refine OpRes.pure s (u := .iface ty (ρ X)) ?_ (.ifc _ _ _ (hρ _ _ hx))
  simp only [Go.execOp, ho, Go.Instr.makeInterface, Go.Sem.run_bind, Go.run_underlying hd, Go.Result.andThen_ok]
  cases d <;> first | rfl | exact absurd rfl (hn _)

theorem op_mkF {f : Nat} {first caps : Array Operand} {cs : List AOpd} (ho : o.op = .makeFunc (.func f) first caps) (s : Sim C B e h w) (hρ : OpdR e t ρ) (hf : first.isEmpty = true) (hc : opds caps.toList = some cs)
    (hev : (AOp.mkF f cs).ev t.ev h = some (v, h')) : OpRes .pure C B e h w ((Go.execOp ρ o).run P w) v h' := by
  simp only [AOp.ev] at hev
  simp at hev; obtain ⟨rfl, rfl⟩ := hev
  have h0 : first = #[] := by simpa using hf
  subst h0
  refine OpRes.pure s (u := .func (.func f) #[] (caps.map ρ)) ?_ (.fn _ _ _ (by simpa using hρ.list hc))
  simp [Go.execOp, ho, Go.Instr.makeFunc]

theorem op_mkM {ty : TypeId} (ho : o.op = .makeMap ty none) (s : Sim C B e h w) (hev : (AOp.mkM).ev t.ev h = some (v, h')) : OpRes .alloc C B e h w ((Go.execOp ρ o).run P w) v h' := by
  simp only [AOp.ev] at hev
  simp at hev; obtain ⟨rfl, rfl⟩ := hev
  refine ⟨.map (some w.heap.size), { w with heap := w.heap.push (.map #[] 0) }, .map #[] 0, _, ⟨w.heap.size, 0, 0, 0⟩, by simp [Go.execOp, ho, Go.Instr.makeMap], rfl, rfl, rfl, rfl, fun e' _ => ⟨#[], 0, push_get (w := w) rfl, .nil, .nil⟩, ?_⟩
  exact VR.m (e := e.add h.nx ⟨w.heap.size, 0, 0, 0⟩) h.nx _ (Emb.add_same _ _ _)

/-! ### Cuts and places -/
theorem bound_sound {x : V} {u : Value} {y n : Nat} {code : Go.BoundsCode} (hx : VR e x u) (h : bound x y = some n) : (Go.Instr.sliceBound u y code).run P w = .ok n w ∧ n ≤ y := by
  unfold bound at h
  split at h
  · have := hx.i_inv
    subst this
    split at h
    · rename_i hc
      simp at h; subst h
      exact ⟨by simp [Go.Instr.sliceBound, Go.asIntOf, hc], by omega⟩
    · simp at h
  · simp at h

theorem opdO_sound (hρ : OpdR e t ρ) {X : Option Operand} {x : Option AOpd} (hx : opdO X = some x) : (X = none ∧ x = none) ∨ ∃ Y y, X = some Y ∧ x = some y ∧ VR e (t.ev y) (ρ Y) := by
  cases X with
  | none => simp [opdO] at hx; exact .inl ⟨rfl, hx.symm⟩
  | some Y =>
    simp only [opdO] at hx
    obtain ⟨y, hy, rfl⟩ := Option.map_eq_some_iff.1 hx
    exact .inr ⟨Y, y, rfl, rfl, hρ _ _ hy⟩

theorem sliceBounds_sound (hρ : OpdR e t ρ) {sl : Bool} {lo hi mx : Option Operand} {lo' hi' mx' : Option AOpd} {len cap m n s : Nat} (hl : opdO lo = some lo') (hh : opdO hi = some hi') (hm : opdO mx = some mx')
    (hmh : mx'.isSome = true → hi'.isSome = true) (h1 : boundO (mx'.map t.ev) cap cap = some m) (h2 : boundO (hi'.map t.ev) m len = some n) (h3 : boundO (lo'.map t.ev) n 0 = some s) :
    (Go.Instr.sliceBounds sl len cap (lo.map ρ) (hi.map ρ) (mx.map ρ)).run P w = .ok (s, n, m) w ∧ s ≤ n ∧ (hi' = none → n = len) ∧ (hi' ≠ none → n ≤ m) ∧ m ≤ cap ∧ (mx' = none → m = cap) := by
  rcases opdO_sound hρ hm with ⟨rfl, rfl⟩ | ⟨M, m', rfl, rfl, vm⟩ <;> rcases opdO_sound hρ hh with ⟨rfl, rfl⟩ | ⟨Hi, hi', rfl, rfl, vh⟩ <;> rcases opdO_sound hρ hl with ⟨rfl, rfl⟩ | ⟨Lo, lo', rfl, rfl, vl⟩ <;>
    simp [boundO] at h1 h2 h3 hmh <;> (try subst h1) <;> (try subst h2) <;> (try subst h3)
  · simp [Go.Instr.sliceBounds]
  · obtain ⟨r3, b3⟩ := bound_sound (P := P) (w := w) (code := .sliceB) vl h3
    simp [Go.Instr.sliceBounds, r3, b3]
  · obtain ⟨r2, b2⟩ := bound_sound (P := P) (w := w) (code := if sl then .sliceAcap else .sliceAlen) vh h2
    cases sl <;> simp_all [Go.Instr.sliceBounds]
  · obtain ⟨r2, b2⟩ := bound_sound (P := P) (w := w) (code := if sl then .sliceAcap else .sliceAlen) vh h2
    obtain ⟨r3, b3⟩ := bound_sound (P := P) (w := w) (code := .sliceB) vl h3
    cases sl <;> simp_all [Go.Instr.sliceBounds]
  · obtain ⟨r1, b1⟩ := bound_sound (P := P) (w := w) (code := if sl then .slice3Acap else .slice3Alen) vm h1
    obtain ⟨r2, b2⟩ := bound_sound (P := P) (w := w) (code := .slice3B) vh h2
    cases sl <;> simp_all [Go.Instr.sliceBounds]
  · obtain ⟨r1, b1⟩ := bound_sound (P := P) (w := w) (code := if sl then .slice3Acap else .slice3Alen) vm h1
    obtain ⟨r2, b2⟩ := bound_sound (P := P) (w := w) (code := .slice3B) vh h2
    obtain ⟨r3, b3⟩ := bound_sound (P := P) (w := w) (code := .slice3C) vl h3
    cases sl <;> simp_all [Go.Instr.sliceBounds]

theorem op_sliceS {ty : TypeId} {X : Operand} {x : AOpd} {lo hi : Option Operand} {lo' hi' : Option AOpd} (ho : o.op = .slice ty X lo hi none) (s : Sim C B e h w) (hρ : OpdR e t ρ) (hx : opd X = some x) (hd : P.underlying ty = some .string)
    (hl : opdO lo = some lo') (hh : opdO hi = some hi') (hev : (AOp.sliceS x lo' hi').ev t.ev h = some (v, h')) : OpRes .pure C B e h w ((Go.execOp ρ o).run P w) v h' := by
  simp only [AOp.ev] at hev
  have vx := hρ _ _ hx
  split at hev
  · rename_i l hp
    rw [hp] at vx
    obtain ⟨n, hn, hev⟩ := Option.bind_eq_some_iff.1 hev
    obtain ⟨q, hq, hev⟩ := Option.bind_eq_some_iff.1 hev
    cases hev
    obtain ⟨b', hb', hbl⟩ := vx.s_inv
    have hsz : b'.size = l.length := by rw [← hbl]; exact Array.length_toList.symm
    obtain ⟨hrun, hle, h1, h2, _⟩ := sliceBounds_sound (P := P) (w := w) (sl := false) (mx := none) (mx' := none) (len := l.length) (cap := l.length) (m := l.length) hρ hl hh rfl (by simp) rfl hn hq
    simp only [Option.map_none] at hrun
    refine OpRes.pure s (u := .string (b'.extract q n)) ?_ ?_
    · simp [Go.execOp, ho, hb', Go.Instr.sliceAt, Go.Instr.slice, Go.run_underlying hd, hsz, hrun]
    · have := VR.s (e := e) (b'.extract q n)
      have e1 : (b'.extract q n).data.toList = (l.take n).drop q := by
        rw [← hbl]
        simp [ByteArray.data_extract, List.drop_take]
      rw [e1] at this
      exact this
  · simp at hev

theorem op_sliceL {ty el : TypeId} {k : Nat} {X : Operand} {x : AOpd} {lo hi mx : Option Operand} {lo' hi' mx' : Option AOpd} (ho : o.op = .slice ty X lo hi mx) (s : Sim C B e h w) (hρ : OpdR e t ρ) (hx : opd X = some x) (hd : P.underlying ty = some (.slice el))
    (hk : szOf P el = some k) (hl : opdO lo = some lo') (hh : opdO hi = some hi') (hm : opdO mx = some mx') (hmh : mx'.isSome = true → hi'.isSome = true) (hev : (AOp.sliceL k x lo' hi' mx').ev t.ev h = some (v, h')) : OpRes .read C B e h w ((Go.execOp ρ o).run P w) v h' := by
  simp only [AOp.ev] at hev
  have vx := hρ _ _ hx
  split at hev
  · rename_i a len cap ex hp
    rw [hp] at vx
    obtain ⟨m, hm1, hev⟩ := Option.bind_eq_some_iff.1 hev
    obtain ⟨n, hn, hev⟩ := Option.bind_eq_some_iff.1 hev
    obtain ⟨q, hq, hev⟩ := Option.bind_eq_some_iff.1 hev
    -- the model's own bounds: its capacity may be greater
    have hrun : ∀ c, cap ≤ c → len ≤ cap → ∃ M, (Go.Instr.sliceBounds true len c (lo.map ρ) (hi.map ρ) (mx.map ρ)).run P w = .ok (q, n, M) w ∧ q ≤ n ∧ n ≤ m ∧ m ≤ M ∧ M ≤ c ∧ (mx' = none → M = c) ∧ (mx' ≠ none → M = m) := by
      intro c hc hlc
      cases hmx : mx' with
      | none =>
        subst hmx
        simp [boundO] at hm1; subst hm1
        have hn2 : boundO (hi'.map t.ev) c len = some n := by
          cases hi' with
          | none => exact hn
          | some y =>
            simp only [Option.map_some, boundO, bound] at hn ⊢
            split at hn
            · rename_i hyy
              split at hn
              · rename_i hcc; simp at hn; subst hn
                rw [if_pos ⟨hcc.1, by omega⟩]
              · simp at hn
            · simp at hn
        obtain ⟨r1, r2, r3, r4, r5, r6⟩ := sliceBounds_sound (P := P) (w := w) (sl := true) (len := len) (cap := c) (m := c) hρ hl hh hm hmh rfl hn2 hq
        refine ⟨c, r1, r2, ?_, hc, Nat.le_refl _, fun _ => rfl, fun h0 => absurd rfl h0⟩
        cases hi' with
        | none => have := r3 rfl; omega
        | some y =>
          simp only [Option.map_some, boundO] at hn
          unfold bound at hn
          split at hn
          · split at hn
            · simp at hn; omega
            · simp at hn
          · simp at hn
      | some y =>
        subst hmx
        have hm2 : boundO ((some y).map t.ev) c c = some m := by
          simp only [Option.map_some, boundO, bound] at hm1 ⊢
          split at hm1
          · split at hm1
            · rename_i hcc; simp at hm1; subst hm1
              rw [if_pos ⟨hcc.1, by omega⟩]
            · simp at hm1
          · simp at hm1
        obtain ⟨r1, r2, r3, r4, r5, r6⟩ := sliceBounds_sound (P := P) (w := w) (sl := true) (len := len) (cap := c) (m := m) hρ hl hh hm hmh hm2 hn hq
        have hne : hi' ≠ none := by
          intro h0; subst h0; simp at hmh
        exact ⟨m, r1, r2, r4 hne, Nat.le_refl _, r5, fun h0 => (by cases h0), fun _ => rfl⟩
    cases a with
    | none =>
      simp at hev
      obtain ⟨rfl, rfl⟩ := hev
      have hu : ρ X = .slice none 0 0 ∧ len = 0 ∧ cap = 0 := by
        generalize ρ X = u at *
        cases vx with | sl0 => exact ⟨rfl, rfl, rfl⟩
      obtain ⟨hu, rfl, rfl⟩ := hu
      obtain ⟨M, hr, h1, h2, h3, h4, _⟩ := hrun 0 (Nat.le_refl _) (Nat.le_refl _)
      have : n = 0 ∧ q = 0 ∧ m = 0 ∧ M = 0 := by omega
      obtain ⟨rfl, rfl, rfl, rfl⟩ := this
      refine OpRes.read s (u := .slice none 0 0) ?_ (.sl0 _)
      simp [Go.execOp, ho, hu, Go.Instr.sliceAt, Go.Instr.slice, Go.run_underlying hd, hr, run_sz hk]
    | some br =>
      obtain ⟨b, r⟩ := br
      simp only at hev
      split at hev
      · rename_i hkk
        simp at hev
        obtain ⟨rfl, rfl⟩ := hev
        generalize hX : ρ X = u at *
        cases vx with
        | sl _ _ _ _ c _ l A hl' h1 h2 h3 h4 =>
          obtain ⟨M, hr, g1, g2, g3, g4, g5, g6⟩ := hrun c h2 h1
          refine OpRes.read s (u := .slice (some (if M = q then A else A.add (q * k))) (n - q) (M - q)) ?_ ?_
          · simp only [Go.execOp, ho, Go.Instr.sliceAt, Go.Instr.slice, Go.Sem.run_bind, Go.run_underlying hd, Go.Result.andThen_ok, hX, hr, run_sz hk, Go.Sem.run_pure]
            by_cases hMq : M = q <;> simp [hMq]
          · refine .sl b (r + q) (n - q) (m - q) (M - q) _ l _ hl' (by omega) (by omega) (fun hx => ?_) (fun hne => ?_)
            · cases hmx : mx' with
              | none =>
                subst hmx
                simp at hx
                have := h3 hx
                have := g5 rfl
                simp [boundO] at hm1
                omega
              | some y => have := g6 (by simp [hmx]); omega
            · have hMq : M ≠ q := by omega
              have hc0 : c ≠ 0 := by omega
              obtain ⟨hA, htop⟩ := h4 hc0
              rw [if_neg hMq]
              refine ⟨?_, by omega⟩
              rw [hA, add_mk]
              rcases hkk with rfl | hkk
              · simp
              · have hlk : l.k = k := by
                  unfold H.kOf at hkk
                  split at hkk
                  · rename_i hb
                    obtain ⟨l2, hl2, hB, _⟩ := s.blk b _ hb
                    rw [hl'] at hl2; cases hl2
                    simp at hkk; rw [← hkk]; exact hB.1.1
                  · rename_i hb
                    obtain ⟨l2, hl2, hB, _⟩ := s.blk b _ hb
                    rw [hl'] at hl2; cases hl2
                    simp at hkk; rw [← hkk]; exact hB.1.1
                  · simp at hkk
                rw [hlk, Nat.add_mul, Nat.add_assoc]
      · simp at hev
  · simp at hev

theorem op_fa {ty : TypeId} {X : Operand} {x : AOpd} {i n : Nat} {fs : Array Go.Field} {f : Go.Field} (ho : o.op = .fieldAddr ty X i) (s : Sim C B e h w) (hρ : OpdR e t ρ) (hx : opd X = some x) (hd : P.underlying ty = some (.struct fs))
    (hf : fs[i]? = some f) (hn : szOf P f.type = some n) (h0 : n ≠ 0) (hev : (AOp.fa f.offset x).ev t.ev h = some (v, h')) : OpRes .pure C B e h w ((Go.execOp ρ o).run P w) v h' := by
  simp only [AOp.ev] at hev
  have vx := hρ _ _ hx
  split at hev
  · rename_i b r g hp
    rw [hp] at vx; simp at hev; obtain ⟨rfl, rfl⟩ := hev
    obtain ⟨l, hl, hu⟩ := vx.p_inv
    refine OpRes.pure s (u := .pointer (some ⟨l.cb, l.sh + r * l.k + (g + f.offset), none⟩)) ?_ (.p b r _ l hl)
    simp [Go.execOp, ho, hu, Go.Instr.fieldAt, Go.run_underlying hd, hf, Go.Instr.sureAddr, Go.fieldPlace, run_sz hn, h0, add_mk, Nat.add_assoc]
  · simp at hev

theorem part_sound {ty : TypeId} {n off : Nat} {g : Bool} {cs : List V} {us : Array Value} (hc : VRL e cs us.toList) (hz : szOf P ty = some n) (hg : aggT P ty = some g) (hgn : g = true ∨ n = 1) (hle : off + n ≤ cs.length)
    (ha : aggOf g ((cs.drop off).take n) = some v) : ∃ u, (Go.part ty us off).run P w = .ok u w ∧ VR e v u := by
  have hv := (hc.drop off).take n
  rcases aggOf_sound hv ha with ⟨rfl, hr⟩ | ⟨rfl, u, hu, hr⟩
  · refine ⟨_, ?_, hr⟩
    simp only [Go.part, Go.Sem.run_bind, run_agg hg, Go.Result.andThen_ok, if_true, run_sz hz, Go.Sem.run_pure]
    congr 2
    apply Array.toList_inj.1
    simp [List.extract_eq_take_drop]
  · refine ⟨u, ?_, hr⟩
    rcases hgn with h0 | h1
    · simp at h0
    · subst h1
      have hu2 : us[off]? = some u := by
        have : ((us.toList.drop off).take 1)[0]? = some u := by rw [hu]; rfl
        rw [List.getElem?_take_of_lt (by omega), List.getElem?_drop] at this
        simpa using this
      simp [Go.part, run_agg hg, hu2]

theorem op_fld {ty : TypeId} {X : Operand} {x : AOpd} {i n : Nat} {g : Bool} {fs : Array Go.Field} {f : Go.Field} (ho : o.op = .field ty X i) (s : Sim C B e h w) (hρ : OpdR e t ρ) (hx : opd X = some x) (hd : P.underlying ty = some (.struct fs))
    (hf : fs[i]? = some f) (hn : szOf P f.type = some n) (hg : aggT P f.type = some g) (hgn : g = true ∨ n = 1) (hev : (AOp.fld f.offset n g x).ev t.ev h = some (v, h')) : OpRes .pure C B e h w ((Go.execOp ρ o).run P w) v h' := by
  simp only [AOp.ev] at hev
  have vx := hρ _ _ hx
  split at hev
  · rename_i cs hp
    rw [hp] at vx
    split at hev
    · rename_i hle
      obtain ⟨v', hv', hev⟩ := Option.bind_eq_some_iff.1 hev
      cases hev
      obtain ⟨us, hu, hc⟩ := vx.agg_inv
      obtain ⟨u, hrun, hr⟩ := part_sound (P := P) (w := w) hc hn hg hgn hle hv'
      exact OpRes.pure s (u := u) (by simp [Go.execOp, ho, hu, Go.Instr.field, Go.run_underlying hd, hf, Go.asAgg, hrun]) hr
    · simp at hev
  · simp at hev

theorem op_ia {ty el : TypeId} {k : Nat} {X I : Operand} {x i : AOpd} (ho : o.op = .indexAddr ty X I) (s : Sim C B e h w) (hρ : OpdR e t ρ) (hx : opd X = some x) (hi : opd I = some i) (hd : P.underlying ty = some (.slice el)) (hk : szOf P el = some k)
    (hev : (AOp.ia k x i).ev t.ev h = some (v, h')) : OpRes .read C B e h w ((Go.execOp ρ o).run P w) v h' := by
  simp only [AOp.ev] at hev
  have vx := hρ _ _ hx
  have vi := hρ _ _ hi
  split at hev
  · rename_i b r len cap ex k' n hp hq
    rw [hp] at vx; rw [hq] at vi
    split at hev
    · rename_i hc
      obtain ⟨h0, hlt, hkk⟩ := hc
      simp at hev; obtain ⟨rfl, rfl⟩ := hev
      have hi2 := vi.i_inv
      generalize hX : ρ X = u at *
      have vx' := vx
      cases vx with
      | sl _ _ _ _ c _ l A hl h1 h2 h3 h4 =>
        obtain ⟨hA, _⟩ := h4 (by omega)
        have hlk : l.k = k := by
          unfold H.kOf at hkk
          split at hkk
          · rename_i hb
            obtain ⟨l2, hl2, hB, _⟩ := s.blk b _ hb
            rw [hl] at hl2; cases hl2
            simp at hkk; rw [← hkk]; exact hB.1.1
          · rename_i hb
            obtain ⟨l2, hl2, hB, _⟩ := s.blk b _ hb
            rw [hl] at hl2; cases hl2
            simp at hkk; rw [← hkk]; exact hB.1.1
          · simp at hkk
        refine OpRes.read s (u := .pointer (some ⟨l.cb, l.sh + (r + n.toNat) * l.k + 0, none⟩)) ?_ (.p b _ 0 l hl)
        simp [Go.execOp, ho, hX, hi2, Go.Instr.indexAt, Go.asIntOf, Go.run_underlying hd, h0, hlt, run_sz hk, hA, add_mk, hlk, Nat.add_mul, Nat.add_assoc]
    · simp at hev
  · simp at hev

theorem op_iaA {ty el : TypeId} {len k : Nat} {X I : Operand} {x i : AOpd} (ho : o.op = .indexAddr ty X I) (s : Sim C B e h w) (hρ : OpdR e t ρ) (hx : opd X = some x) (hi : opd I = some i) (hd : P.underlying ty = some (.array len el)) (hk : szOf P el = some k)
    (hev : (AOp.iaA len k x i).ev t.ev h = some (v, h')) : OpRes .pure C B e h w ((Go.execOp ρ o).run P w) v h' := by
  simp only [AOp.ev] at hev
  have vx := hρ _ _ hx
  have vi := hρ _ _ hi
  split at hev
  · rename_i b r g k' n hp hq
    rw [hp] at vx; rw [hq] at vi
    split at hev
    · rename_i hc
      obtain ⟨h0, hlt⟩ := hc
      simp at hev; obtain ⟨rfl, rfl⟩ := hev
      have hi2 := vi.i_inv
      obtain ⟨l, hl, hu⟩ := vx.p_inv
      refine OpRes.pure s (u := .pointer (some ⟨l.cb, l.sh + r * l.k + (g + n.toNat * k), none⟩)) ?_ (.p b r _ l hl)
      simp [Go.execOp, ho, hu, hi2, Go.Instr.indexAt, Go.Instr.sureAddr, Go.asIntOf, Go.run_underlying hd, h0, hlt, run_sz hk, add_mk, Nat.add_assoc]
    · simp at hev
  · simp at hev

theorem op_ixS {ty : TypeId} {X I : Operand} {x i : AOpd} (ho : o.op = .index ty X I) (s : Sim C B e h w) (hρ : OpdR e t ρ) (hx : opd X = some x) (hi : opd I = some i) (hd : P.underlying ty = some .string)
    (hev : (AOp.ixS x i).ev t.ev h = some (v, h')) : OpRes .pure C B e h w ((Go.execOp ρ o).run P w) v h' := by
  simp only [AOp.ev] at hev
  have vx := hρ _ _ hx
  have vi := hρ _ _ hi
  split at hev
  · rename_i l k n hp hq
    rw [hp] at vx; rw [hq] at vi
    split at hev
    · rename_i h0
      obtain ⟨c, hc, hev⟩ := Option.bind_eq_some_iff.1 hev
      cases hev
      have hi2 := vi.i_inv
      obtain ⟨b', hb', hl⟩ := vx.s_inv
      have hg : b'[n.toNat]? = some c := by
        rw [← hl] at hc
        have hlt : n.toNat < b'.size := by
          have := (List.getElem?_eq_some_iff.1 hc).1
          simpa using this
        rw [getElem?_pos b' _ hlt]
        have h2 : b'.data.toList[n.toNat]? = some c := hc
        rw [List.getElem?_eq_getElem (by simpa using hlt)] at h2
        simpa [ByteArray.getElem_eq_getElem_data] using h2
      refine OpRes.pure s (u := .int .u8 c.toNat) ?_ (.i _ _)
      simp [Go.execOp, ho, hb', hi2, Go.Instr.index, Go.asIntOf, Go.run_underlying hd, h0, hg]
    · simp at hev
  · simp at hev

theorem op_ixA {ty el : TypeId} {len k : Nat} {g : Bool} {X I : Operand} {x i : AOpd} (ho : o.op = .index ty X I) (s : Sim C B e h w) (hρ : OpdR e t ρ) (hx : opd X = some x) (hi : opd I = some i) (hd : P.underlying ty = some (.array len el)) (hk : szOf P el = some k)
    (hg : aggT P el = some g) (hgn : g = true ∨ k = 1) (hev : (AOp.ixA len k g x i).ev t.ev h = some (v, h')) : OpRes .pure C B e h w ((Go.execOp ρ o).run P w) v h' := by
  simp only [AOp.ev] at hev
  have vx := hρ _ _ hx
  have vi := hρ _ _ hi
  split at hev
  · rename_i cs k' n hp hq
    rw [hp] at vx; rw [hq] at vi
    split at hev
    · rename_i hc
      obtain ⟨h0, hlt, hle⟩ := hc
      obtain ⟨v', hv', hev⟩ := Option.bind_eq_some_iff.1 hev
      cases hev
      have hi2 := vi.i_inv
      obtain ⟨us, hu, hcs⟩ := vx.agg_inv
      obtain ⟨u, hrun, hr⟩ := part_sound (P := P) (w := w) hcs hk hg hgn hle hv'
      refine OpRes.pure s (u := u) ?_ hr
      simp [Go.execOp, ho, hu, hi2, Go.Instr.index, Go.asIntOf, Go.run_underlying hd, h0, hlt, run_sz hk, hrun]
    · simp at hev
  · simp at hev

end Am

/- AmOps4: the operations, further: aggregates, slices made, maps, iterators, builtins. -/
namespace Am
set_option linter.unusedVariables false
set_option linter.unusedSimpArgs false
open Go (IntKind BinOp UnOp Value Program TypeId TypeDesc Operand Oper Code Tmp World Addr Obj Act)

variable {P : Program} {C : Cx} {B : Nat} {e e' : Emb} {h h' : H} {w w' : World} {t : Tm} {ρ : Operand → Value} {o : Oper} {v : V}

/-! ### Filling -/
theorem VRL.splice {xs ys : List V} {us ws : List Value} (h1 : VRL e xs us) (h2 : VRL e ys ws) (i : Nat) : VRL e (splice xs i ys) (splice us i ws) := by
  unfold Am.splice
  rw [← h2.length]
  exact ((h1.take i).append h2).append (h1.drop _)

theorem setAll (cs : Array Value) (off : Nat) : ∀ (vs : List Value) (k : Nat), off + k + vs.length ≤ cs.size →
    ((vs.zipIdx k).foldl (fun (a : Array Value) (p : Value × Nat) => a.setIfInBounds (off + p.2) p.1) cs).toList = splice cs.toList (off + k) vs := by
  intro vs
  induction vs generalizing cs with
  | nil => intro k hk; simp [splice]
  | cons v vs ih =>
    intro k hk
    simp only [List.zipIdx_cons, List.foldl_cons]
    simp only [List.length_cons] at hk
    rw [ih _ (k + 1) (by simp; omega)]
    apply List.ext_getElem?
    intro q
    rw [splice_get _ _ _ _ (by simp; omega), splice_get _ _ _ _ (by simp; omega)]
    simp only [Array.toList_setIfInBounds, List.getElem?_set, List.length_cons, Array.length_toList]
    by_cases h1 : q < off + k
    · rw [if_pos (by omega), if_pos h1, if_neg (by omega)]
    · rw [if_neg h1]
      by_cases h2 : q = off + k
      · subst h2
        rw [if_pos (by omega), if_pos rfl, if_pos (by omega), if_pos (by omega)]
        simp
      · rw [if_neg (by omega)]
        by_cases h3 : q < off + k + (vs.length + 1)
        · rw [if_pos (by omega), if_pos (by omega)]
          have : q - (off + k) = (q - (off + (k + 1))) + 1 := by omega
          rw [this]; simp
        · rw [if_neg (by omega), if_neg (by omega), if_neg (by omega)]

theorem fill_sound {place : Nat → Option (Nat × Nat)} : ∀ {ps : List (Nat × Value)} {qs : List (Nat × Nat × V)} {z cs : List V} {us : Array Value}, VRL e z us.toList →
    qs.length = ps.length → (∀ (i : Nat) p q, ps[i]? = some p → qs[i]? = some q → place p.1 = some (q.1, q.2.1) ∧ VR e q.2.2 p.2) → fill z qs = some cs →
    ∃ ws, Go.Instr.fill place us ps = some ws ∧ VRL e cs ws.toList
  | [], qs, z, cs, us, hz, hl, hp, hf => by
    have : qs = [] := List.length_eq_zero_iff.1 hl
    subst this
    simp [fill] at hf; subst hf
    exact ⟨us, rfl, hz⟩
  | (i, u) :: ps, [], z, cs, us, hz, hl, hp, hf => by simp at hl
  | (i, u) :: ps, (off, n, x) :: qs, z, cs, us, hz, hl, hp, hf => by
    obtain ⟨hpl, hvr⟩ := hp 0 _ _ rfl rfl
    simp only at hpl hvr
    unfold Am.fill at hf
    split at hf
    · rename_i hc
      obtain ⟨hn, hle⟩ := hc
      have hcl := hvr.cells.length
      have hus := hz.length
      have hsz : u.cells.size = n := by rw [← hn, hcl]; simp
      have hle2 : off + u.cells.size ≤ us.size := by simp at hus; omega
      have hset := setAll us off u.cells.toList 0 (by simp; omega)
      simp only [Nat.add_zero] at hset
      have hz2 : VRL e (splice z off x.cells) ((u.cells.zipIdx.foldl (fun cs (c, j) => cs.setIfInBounds (off + j) c) us)).toList := by
        rw [← Array.foldl_toList]
        rw [show u.cells.zipIdx.toList = u.cells.toList.zipIdx 0 by simp]
        rw [hset]
        exact hz.splice hvr.cells off
      obtain ⟨ws, h1, h2⟩ := fill_sound hz2 (by simpa using hl) (fun j p q hpj hqj => hp (j + 1) p q (by simpa using hpj) (by simpa using hqj)) hf
      refine ⟨ws, ?_, h2⟩
      simp only [Go.Instr.fill, hpl, hsz]
      rw [hsz] at hle2
      simp only [ne_eq, not_true_eq_false, decide_false, Bool.false_or, decide_eq_true_eq]
      rw [if_neg (by omega)]
      exact h1
    · simp at hf

theorem partsS_sound (hρ : OpdR e t ρ) {fs : Array Go.Field} : ∀ {ps : List (Nat × Operand)} {qs : List (Nat × Nat × AOpd)}, partsS P fs ps = some qs → qs.length = ps.length ∧
    ∀ (i : Nat) p q, ps[i]? = some p → qs[i]? = some q → ∃ f, fs[p.1]? = some f ∧ q.1 = f.offset ∧ szOf P f.type = some q.2.1 ∧ VR e (t.ev q.2.2) (ρ p.2)
  | [], qs, h => by simp [partsS] at h; subst h; exact ⟨rfl, fun i p q hp => by simp at hp⟩
  | (i, x) :: ps, qs, h => by
    unfold partsS at h
    obtain ⟨f, hf, h⟩ := Option.bind_eq_some_iff.1 h
    obtain ⟨n, hn, h⟩ := Option.bind_eq_some_iff.1 h
    obtain ⟨a, ha, h⟩ := Option.bind_eq_some_iff.1 h
    obtain ⟨rs, hrs, h⟩ := Option.bind_eq_some_iff.1 h
    cases h
    obtain ⟨h1, h2⟩ := partsS_sound hρ hrs
    refine ⟨by simp [h1], fun j p q hp hq => ?_⟩
    cases j with
    | zero => simp at hp hq; subst hp hq; exact ⟨f, hf, rfl, hn, hρ _ _ ha⟩
    | succ j => exact h2 j p q (by simpa using hp) (by simpa using hq)

theorem partsA_sound (hρ : OpdR e t ρ) {k : Nat} : ∀ {ps : List (Nat × Operand)} {qs : List (Nat × Nat × AOpd)}, partsA k ps = some qs → qs.length = ps.length ∧
    ∀ (i : Nat) p q, ps[i]? = some p → qs[i]? = some q → q.1 = p.1 * k ∧ q.2.1 = k ∧ VR e (t.ev q.2.2) (ρ p.2)
  | [], qs, h => by simp [partsA] at h; subst h; exact ⟨rfl, fun i p q hp => by simp at hp⟩
  | (i, x) :: ps, qs, h => by
    unfold partsA at h
    obtain ⟨a, ha, h⟩ := Option.bind_eq_some_iff.1 h
    obtain ⟨rs, hrs, h⟩ := Option.bind_eq_some_iff.1 h
    cases h
    obtain ⟨h1, h2⟩ := partsA_sound hρ hrs
    refine ⟨by simp [h1], fun j p q hp hq => ?_⟩
    cases j with
    | zero => simp at hp hq; subst hp hq; exact ⟨rfl, rfl, hρ _ _ ha⟩
    | succ j => exact h2 j p q (by simpa using hp) (by simpa using hq)

theorem partsL_sound (hρ : OpdR e t ρ) : ∀ {ps : List (Nat × Operand)} {qs : List (Nat × AOpd)}, partsL ps = some qs → qs.length = ps.length ∧
    ∀ (i : Nat) p q, ps[i]? = some p → qs[i]? = some q → q.1 = p.1 ∧ VR e (t.ev q.2) (ρ p.2)
  | [], qs, h => by simp [partsL] at h; subst h; exact ⟨rfl, fun i p q hp => by simp at hp⟩
  | (i, x) :: ps, qs, h => by
    unfold partsL at h
    obtain ⟨a, ha, h⟩ := Option.bind_eq_some_iff.1 h
    obtain ⟨rs, hrs, h⟩ := Option.bind_eq_some_iff.1 h
    cases h
    obtain ⟨h1, h2⟩ := partsL_sound hρ hrs
    refine ⟨by simp [h1], fun j p q hp hq => ?_⟩
    cases j with
    | zero => simp at hp hq; subst hp hq; exact ⟨rfl, hρ _ _ ha⟩
    | succ j => exact h2 j p q (by simpa using hp) (by simpa using hq)

theorem run_mapM_fields {fs : Array Go.Field} (hall : (fs.all fun f => (szOf P f.type).isSome) = true) : (fs.mapM fun f => do pure (f.offset, ← Go.sizeOf f.type) : Go.Sem (Array (Nat × Nat))).run P w =
    .ok (fs.map fun f => (f.offset, (szOf P f.type).getD 0)) w := by
  rw [Array.mapM_eq_mapM_toList]
  have key : ∀ (l : List Go.Field), (∀ f ∈ l, (szOf P f.type).isSome = true) → (l.mapM fun f => do pure (f.offset, ← Go.sizeOf f.type) : Go.Sem (List (Nat × Nat))).run P w = .ok (l.map fun f => (f.offset, (szOf P f.type).getD 0)) w := by
    intro l
    induction l with
    | nil => intro _; rfl
    | cons f l ih =>
      intro hl
      obtain ⟨n, hn⟩ := Option.isSome_iff_exists.1 (hl f (by simp))
      have ih := ih fun g hg => hl g (by simp [hg])
      simp only [List.mapM_cons, Go.Sem.run_bind, run_sz hn, Go.Result.andThen_ok, Go.Sem.run_pure, ih, List.map_cons, hn, Option.getD_some]
  have hl : ∀ f ∈ fs.toList, (szOf P f.type).isSome = true := by
    intro f hf
    rw [Array.all_eq_true_iff_forall_mem] at hall
    exact hall f (by simpa using hf)
  simp only [Go.Sem.run_map, key _ hl, Go.Result.andThen_ok]
  congr 1
  apply Array.toList_inj.1
  simp

theorem op_buildS {ty : TypeId} {ps : Array (Nat × Operand)} {fs : Array Go.Field} {z : List V} {qs : List (Nat × Nat × AOpd)} (ho : o.op = .build ty ps) (s : Sim C B e h w) (hρ : OpdR e t ρ) (hd : P.underlying ty = some (.struct fs))
    (hz : zeroT P ty = some z) (hq : partsS P fs ps.toList = some qs) (hall : (fs.all fun f => (szOf P f.type).isSome) = true) (hev : (AOp.build z qs).ev t.ev h = some (v, h')) : OpRes .pure C B e h w ((Go.execOp ρ o).run P w) v h' := by
  simp only [AOp.ev] at hev
  obtain ⟨cs, hcs, hev⟩ := Option.bind_eq_some_iff.1 hev
  cases hev
  obtain ⟨zv, hzr, hzv⟩ := run_zero hz w
  obtain ⟨h1, h2⟩ := partsS_sound (P := P) hρ hq
  obtain ⟨ws, hf, hvr⟩ := fill_sound (e := e) (place := fun i => (fs.map fun f => (f.offset, (szOf P f.type).getD 0))[i]?) (ps := (ps.toList.map fun p => (p.1, ρ p.2))) (hzv e) (by simp [h1]) (fun i p q hp hq => by
    rw [List.getElem?_map] at hp hq
    obtain ⟨p', hp', rfl⟩ := Option.map_eq_some_iff.1 hp
    obtain ⟨q', hq', rfl⟩ := Option.map_eq_some_iff.1 hq
    obtain ⟨f, hf1, hf2, hf3, hf4⟩ := h2 i p' q' hp' hq'
    exact ⟨by simp [hf1, hf3, hf2], hf4⟩) hcs
  refine OpRes.pure s (u := .agg ws) ?_ (.agg _ _ hvr)
  simp only [Go.execOp, ho, Go.Instr.build, Go.Sem.run_bind, hzr, Go.Result.andThen_ok, Go.run_underlying hd, run_mapM_fields hall]
  have : (Array.map (fun (x : Nat × Operand) => (x.1, ρ x.2)) ps).toList = ps.toList.map fun p => (p.1, ρ p.2) := by simp
  simp only [this, hf, Go.Sem.run_pure, Go.Result.andThen_ok]

theorem op_buildA {ty el : TypeId} {len k : Nat} {ps : Array (Nat × Operand)} {z : List V} {qs : List (Nat × Nat × AOpd)} (ho : o.op = .build ty ps) (s : Sim C B e h w) (hρ : OpdR e t ρ) (hd : P.underlying ty = some (.array len el))
    (hz : zeroT P ty = some z) (hk : szOf P el = some k) (hq : partsA k ps.toList = some qs) (hev : (AOp.build z qs).ev t.ev h = some (v, h')) : OpRes .pure C B e h w ((Go.execOp ρ o).run P w) v h' := by
  simp only [AOp.ev] at hev
  obtain ⟨cs, hcs, hev⟩ := Option.bind_eq_some_iff.1 hev
  cases hev
  obtain ⟨zv, hzr, hzv⟩ := run_zero hz w
  obtain ⟨h1, h2⟩ := partsA_sound hρ hq
  obtain ⟨ws, hf, hvr⟩ := fill_sound (e := e) (place := fun i => some (i * k, k)) (ps := (ps.toList.map fun p => (p.1, ρ p.2))) (hzv e) (by simp [h1]) (fun i p q hp hq => by
    rw [List.getElem?_map] at hp hq
    obtain ⟨p', hp', rfl⟩ := Option.map_eq_some_iff.1 hp
    obtain ⟨q', hq', rfl⟩ := Option.map_eq_some_iff.1 hq
    obtain ⟨hf1, hf2, hf3⟩ := h2 i p' q' hp' hq'
    exact ⟨by simp [hf1, hf2], hf3⟩) hcs
  refine OpRes.pure s (u := .agg ws) ?_ (.agg _ _ hvr)
  simp only [Go.execOp, ho, Go.Instr.build, Go.Sem.run_bind, hzr, Go.Result.andThen_ok, Go.run_underlying hd, run_sz hk]
  have : (Array.map (fun (x : Nat × Operand) => (x.1, ρ x.2)) ps).toList = ps.toList.map fun p => (p.1, ρ p.2) := by simp
  simp only [this, hf, Go.Sem.run_pure, Go.Result.andThen_ok]

/-! ### Rows of zeros -/
theorem zrow {z : List V} {zc : Array Value} {k : Nat} (hz : VRL e z zc.toList) (hk : z.length = k) (hfl : z.all V.flat = true) (n : Nat) (g : Nat → Value) (hg : ∀ q, q < n * k → g q = zc[q % k]!) : VRR e k (List.replicate n z) ((List.range (n * k)).map g) := by
  have hl := hz.length
  refine ⟨by simp, fun r row hr => ?_⟩
  have hrn : r < n := by
    have := (List.getElem?_eq_some_iff.1 hr).1
    simpa using this
  rw [List.getElem?_replicate, if_pos hrn] at hr
  cases hr
  refine ⟨hk, fun j x hj => ?_⟩
  have hjk : j < k := by rw [← hk]; exact (List.getElem?_eq_some_iff.1 hj).1
  obtain ⟨u, hu, hv⟩ := hz.get j x hj
  have hlt : r * k + j < n * k := by
    have : (r + 1) * k ≤ n * k := Nat.mul_le_mul_right k hrn
    rw [Nat.add_mul] at this; omega
  refine ⟨u, ?_, hv, List.all_eq_true.1 hfl _ (List.mem_of_getElem? hj)⟩
  rw [List.getElem?_map, List.getElem?_range hlt]
  simp only [Option.map_some]
  rw [hg _ hlt]
  have hm : (r * k + j) % k = j := by rw [Nat.add_comm, Nat.add_mul_mod_self_right, Nat.mod_eq_of_lt hjk]
  rw [hm]
  have hu2 : zc[j]? = some u := by simpa using hu
  have hlt2 : j < zc.size := (Array.getElem?_eq_some_iff.1 hu2).1
  rw [getElem!_pos zc j hlt2]
  rw [Array.getElem?_eq_getElem hlt2] at hu2
  rw [Option.some.inj hu2]

theorem flatten_rows {k : Nat} : ∀ {rs : List (List V)} {us : List Value}, VRR e k rs us → VRL e rs.flatten us
  | [], us, h => by
    have : us = [] := by have := h.len; simpa using this
    subst this; exact .nil
  | row :: rs, us, h => by
    obtain ⟨hk, hc⟩ := h.row 0 row rfl
    have hlen := h.len
    simp only [List.length_cons, Nat.add_mul, Nat.one_mul] at hlen
    have h1 : VRL e row (us.take k) := VRL.of_get (by simp; omega) fun j x u hj hu => by
      obtain ⟨u', hu', hv⟩ := hc j x hj
      have hjk : j < k := by rw [← hk]; exact (List.getElem?_eq_some_iff.1 hj).1
      rw [List.getElem?_take_of_lt hjk] at hu
      simp only [Nat.zero_mul, Nat.zero_add] at hu'
      rw [hu] at hu'; cases hu'; exact hv.1
    have h2 : VRR e k rs (us.drop k) := ⟨by simp; omega, fun r row' hr => by
      obtain ⟨a, b⟩ := h.row (r + 1) row' (by simpa using hr)
      refine ⟨a, fun j x hj => ?_⟩
      obtain ⟨u, hu, hv⟩ := b j x hj
      refine ⟨u, ?_, hv⟩
      rw [List.getElem?_drop]
      rw [Nat.add_mul, Nat.one_mul] at hu
      rw [← hu]; congr 1; omega⟩
    have := h1.append (flatten_rows h2)
    rw [List.take_append_drop] at this
    simpa using this

theorem bytesOf_sound : ∀ {vs : List V} {bs : List UInt8} {us : List Value}, bytesOf vs = some bs → VRL e vs us → us = bcells bs
  | [], bs, us, h, hv => by simp [bytesOf] at h; subst h; cases hv; rfl
  | x :: vs, bs, us, h, hv => by
    unfold bytesOf at h
    obtain ⟨c, hc, h⟩ := Option.bind_eq_some_iff.1 h
    obtain ⟨cs, hcs, h⟩ := Option.bind_eq_some_iff.1 h
    cases h
    cases hv with
    | cons _ u _ us hx hs =>
      rw [byteOf_sound hc hx, bytesOf_sound hcs hs]; rfl

/-- A slice of rows in a new block. -/
theorem newRow_rows {el : TypeId} {k len : Nat} {rs : List (List V)} {cs : Array Value} (hk : 0 < k) (hr : VRR e k rs cs.toList) (hl : len ≤ rs.length) :
    (Go.newRow el cs).run P w = .ok ⟨w.heap.size, 0, none⟩ { w with heap := w.heap.push (.cells cs el (0, 0)) } ∧
      (∀ e', e.le e' → BlkR C e' (.rows k rs false) ⟨w.heap.size, 0, k, rs.length⟩ { w with heap := w.heap.push (.cells cs el (0, 0)) }) ∧
      VR (e.add h.nx ⟨w.heap.size, 0, k, rs.length⟩) (.sl (some (h.nx, 0)) len rs.length true) (.slice (some ⟨w.heap.size, 0, none⟩) len rs.length) := by
  refine ⟨by simp [Go.newRow], fun e' he =>
    blk_rows (cs := cs) (el := el) (fr := (0, 0)) hk (hr.mono he) (push_get (w := w) rfl) (fun j x hj => by simpa using hj) (by have := hr.len; simp at this; omega) (fun j _ hx => by have := hx.2; simp at this), ?_⟩
  exact .sl (e := e.add h.nx ⟨w.heap.size, 0, k, rs.length⟩) h.nx 0 _ _ _ true _ _ (Emb.add_same _ _ _) hl (Nat.le_refl _) (fun _ => rfl) (fun _ => ⟨by simp, by simp⟩)
theorem newRow_bytes {el : TypeId} {len : Nat} {bs : List UInt8} {cs : Array Value} (hr : cs.toList = bcells bs) (hl : len ≤ bs.length) :
    (Go.newRow el cs).run P w = .ok ⟨w.heap.size, 0, none⟩ { w with heap := w.heap.push (.cells cs el (0, 0)) } ∧
      (∀ e', e.le e' → BlkR C e' (.bytes bs false) ⟨w.heap.size, 0, 1, bs.length⟩ { w with heap := w.heap.push (.cells cs el (0, 0)) }) ∧
      VR (e.add h.nx ⟨w.heap.size, 0, 1, bs.length⟩) (.sl (some (h.nx, 0)) len bs.length true) (.slice (some ⟨w.heap.size, 0, none⟩) len bs.length) := by
  have hsz : cs.size = bs.length := by rw [← Array.length_toList, hr]; simp [bcells]
  refine ⟨by simp [Go.newRow], fun e' _ =>
    blk_bytes (cs := cs) (el := el) (fr := (0, 0)) (push_get (w := w) rfl) (fun j x hj => by rw [← Array.getElem?_toList, hr]; simp [bcells, hj]) (by omega) (fun j _ hx => by have := hx.2; simp at this), ?_⟩
  exact .sl (e := e.add h.nx ⟨w.heap.size, 0, 1, bs.length⟩) h.nx 0 _ _ _ true _ _ (Emb.add_same _ _ _) hl (Nat.le_refl _) (fun _ => rfl) (fun _ => ⟨by simp, by simp⟩)

theorem op_mkS {ty el : TypeId} {k bytes : Nat} {by_ : Bool} {z : List V} {L C' : Operand} {l c : AOpd} (ho : o.op = .makeSlice ty L C') (_ : Sim C B e h w) (hρ : OpdR e t ρ) (hl : opd L = some l) (hc : opd C' = some c) (hd : P.underlying ty = some (.slice el))
    (hz : zeroT P el = some z) (hk : szOf P el = some k) (hby : bytesOfT P el = some bytes) (hzk : z.length = k) (hb : by_ = false ∨ V.beqs z [.i .u8 0] = true)
    (hev : (AOp.mkS z by_ bytes l c).ev t.ev h = some (v, h')) : OpRes .alloc C B e h w ((Go.execOp ρ o).run P w) v h' := by
  simp only [AOp.ev] at hev
  have vl := hρ _ _ hl
  have vc := hρ _ _ hc
  split at hev
  · rename_i l' c' hp hq
    rw [hp] at vl; rw [hq] at vc
    split at hev
    · rename_i hcond
      obtain ⟨h0, hlc, hb0, hroom, hzne, hflat⟩ := hcond
      have hcb : c' ≤ 140737488355328 := by
        have : 1 * c'.toNat ≤ bytes * c'.toNat := Nat.mul_le_mul_right _ hb0
        omega
      have hl2 := vl.i_inv
      have hc2 := vc.i_inv
      obtain ⟨i, hi, hib⟩ : ∃ i, P.info? el = some i ∧ i.bytes = bytes := Option.map_eq_some_iff.1 hby
      obtain ⟨zv, hzr, hzv⟩ := run_zero hz w
      have hwrap : ∀ n : Int, 0 ≤ n → n ≤ 140737488355328 → IntKind.i64.wrap n = n := by
        intro n h1 h2
        unfold Go.IntKind.wrap
        dsimp only [Go.IntKind.bits, Go.IntKind.signed]
        rw [Int.emod_eq_of_lt h1 (by omega)]
        have h3 : ¬ (n ≥ 2 ^ (64 - 1)) := by omega
        simp only [h3, decide_false, Bool.and_false, Bool.false_eq_true, if_false]
      have hk0 : 0 < k := by rw [← hzk]; exact List.length_pos_iff.2 hzne
      -- what the model's make comes to
      have hmk : ∀ {A : Addr} {w' : World}, (Go.newRow el ((Array.range (c'.toNat * k)).map (zv.cells[· % zv.cells.size]!))).run P w = .ok A w' →
          (Go.execOp ρ o).run P w = .ok (.value (.slice (some A) l'.toNat c'.toNat)) w' := by
        intro A w' hrun
        have g1 : ¬ (c' < 0) := by omega
        have g2 : ¬ ((bytes : Int) * c' > 2 ^ 48) := by
          have : (bytes : Int) * c' = ((bytes * c'.toNat : Nat) : Int) := by push_cast; rw [Int.toNat_of_nonneg (by omega)]
          rw [this]; omega
        have g3 : ¬ (l' < 0) := by omega
        have g4 : ¬ (l' > c') := by omega
        simp only [Go.execOp, ho, Go.Instr.makeSlice, Go.Sem.run_bind, Go.run_underlying hd, Go.Result.andThen_ok, hl2, hc2, Go.asInt, Go.asIntOf, Go.Sem.run_pure, run_info hi, hwrap c' (by omega) hcb, hwrap l' h0 (by omega), hib]
        simp only [g1, g2, g3, g4, decide_false, Bool.or_self, Bool.false_eq_true, if_false, Go.Sem.run_bind, Go.run_askRoom, Go.Result.andThen_ok, run_sz hk]
        by_cases hn : c'.toNat * k = 0
        · have : c'.toNat = 0 := by
            rcases Nat.mul_eq_zero.1 hn with h1 | h1
            · exact h1
            · omega
          rw [this] at hrun ⊢
          simp only [Nat.zero_mul, if_true, Go.Sem.run_bind, Go.Sem.run_pure, Go.Result.andThen_ok] at hrun ⊢
          have e1 : (Array.range 0).map (fun x => (#[] : Array Value)[x % (#[] : Array Value).size]!) = (Array.range 0).map (zv.cells[· % zv.cells.size]!) := by simp
          rw [e1, hrun]
          rfl
        · simp only [hn, if_false, Go.Sem.run_bind, hzr, Go.Result.andThen_ok, Go.Sem.run_pure, hrun]
      have hzs : zv.cells.size = k := by have := (hzv e).length; simp at this; omega
      have hrows : VRR e k (List.replicate c'.toNat z) ((Array.range (c'.toNat * k)).map (zv.cells[· % zv.cells.size]!)).toList := by
        have := zrow (hzv e) hzk hflat c'.toNat (fun q => zv.cells[q % zv.cells.size]!) (fun q _ => by rw [hzs])
        simpa using this
      split at hev
      · rename_i hbt
        split at hev
        · rename_i hz1
          simp at hev; obtain ⟨rfl, rfl⟩ := hev
          have hzb : z = [.i .u8 0] := by
            rcases hb with hb | hb
            · rw [hbt] at hb; cases hb
            · exact V.beqs_eq _ _ hb
          have hk1 : k = 1 := by omega
          have hbc : bytesOf (List.replicate c'.toNat z).flatten = some (List.replicate c'.toNat 0) := by
            rw [hzb]
            generalize c'.toNat = n
            induction n with
            | zero => rfl
            | succ n ih =>
              simp only [List.replicate_succ, List.flatten_cons, List.singleton_append, bytesOf, ih]
              rfl
          have hcells := bytesOf_sound hbc (flatten_rows hrows)
          obtain ⟨h1, h2, h3⟩ := newRow_bytes (P := P) (C := C) (e := e) (h := h) (w := w) (el := el) (len := l'.toNat) hcells (by simp; omega)
          simp only [List.length_replicate] at h2 h3
          exact ⟨_, _, _, _, _, hmk h1, rfl, rfl, rfl, rfl, h2, h3⟩
        · simp at hev
      · simp at hev; obtain ⟨rfl, rfl⟩ := hev
        obtain ⟨h1, h2, h3⟩ := newRow_rows (P := P) (C := C) (e := e) (h := h) (w := w) (el := el) (len := l'.toNat) hk0 hrows (by simp; omega)
        simp only [List.length_replicate] at h2 h3
        rw [hzk]
        exact ⟨_, _, _, _, _, hmk h1, rfl, rfl, rfl, rfl, h2, h3⟩
    · simp at hev
  · simp at hev

end Am

/- AmOps5: the operations, the rest: slice literals, maps, iterators, builtins. -/
namespace Am
set_option linter.unusedVariables false
set_option linter.unusedSimpArgs false
open Go (IntKind BinOp UnOp Value Program TypeId TypeDesc Operand Oper Code Tmp World Addr Obj Act)

variable {P : Program} {C : Cx} {B : Nat} {e e' : Emb} {h h' : H} {w w' : World} {t : Tm} {ρ : Operand → Value} {o : Oper} {v : V}

theorem VRR.set {k : Nat} {rs : List (List V)} {us : List Value} {row : List V} {ws : List Value} {i : Nat} (h : VRR e k rs us) (hr : VRL e row ws) (hfl : row.all V.flat = true) (hk : row.length = k) (hi : i < rs.length) : VRR e k (rs.set i row) (splice us (i * k) ws) := by
  have hwl := hr.length
  have hle : i * k + ws.length ≤ us.length := by
    rw [h.len, ← hwl, hk]
    have : (i + 1) * k ≤ rs.length * k := Nat.mul_le_mul_right k hi
    rw [Nat.add_mul] at this; omega
  refine ⟨by rw [splice_length _ _ _ hle, h.len]; simp, fun r row' hrow => ?_⟩
  rw [List.getElem?_set] at hrow
  by_cases hir : i = r
  · subst hir
    rw [if_pos rfl, if_pos hi] at hrow
    cases hrow
    refine ⟨hk, fun j x hj => ?_⟩
    obtain ⟨u, hu, hv⟩ := hr.get j x hj
    have hjk : j < ws.length := (List.getElem?_eq_some_iff.1 hu).1
    refine ⟨u, ?_, hv, List.all_eq_true.1 hfl _ (List.mem_of_getElem? hj)⟩
    rw [splice_get _ _ _ _ hle, if_neg (by omega), if_pos (by omega)]
    rw [← hu]; congr 1; omega
  · rw [if_neg hir] at hrow
    obtain ⟨a, b⟩ := h.row r row' hrow
    refine ⟨a, fun j x hj => ?_⟩
    obtain ⟨u, hu, hv⟩ := b j x hj
    have hjk : j < k := by rw [← a]; exact (List.getElem?_eq_some_iff.1 hj).1
    refine ⟨u, ?_, hv⟩
    rw [splice_get _ _ _ _ hle]
    rcases Nat.lt_or_gt_of_ne hir with hlt | hlt
    · have : (i + 1) * k ≤ r * k := Nat.mul_le_mul_right k hlt
      rw [Nat.add_mul] at this
      rw [if_neg (by omega), if_neg (by rw [← hwl, hk]; omega)]; exact hu
    · have : (r + 1) * k ≤ i * k := Nat.mul_le_mul_right k hlt
      rw [Nat.add_mul] at this
      rw [if_pos (by omega)]; exact hu

theorem fillRows_sound {k : Nat} : ∀ {ps : List (Nat × Value)} {qs : List (Nat × V)} {rs out : List (List V)} {us : Array Value}, VRR e k rs us.toList →
    qs.length = ps.length → (∀ (i : Nat) p q, ps[i]? = some p → qs[i]? = some q → q.1 = p.1 ∧ VR e q.2 p.2) → fillRows k rs qs = some out →
    ∃ ws, Go.Instr.fill (fun i => some (i * k, k)) us ps = some ws ∧ VRR e k out ws.toList ∧ out.length = rs.length
  | [], qs, rs, out, us, hz, hl, hp, hf => by
    have : qs = [] := List.length_eq_zero_iff.1 hl
    subst this
    simp [fillRows] at hf; subst hf
    exact ⟨us, rfl, hz, rfl⟩
  | (i, u) :: ps, [], rs, out, us, hz, hl, hp, hf => by simp at hl
  | (i, u) :: ps, (i', x) :: qs, rs, out, us, hz, hl, hp, hf => by
    obtain ⟨hpl, hvr⟩ := hp 0 _ _ rfl rfl
    simp only at hpl hvr
    subst hpl
    unfold fillRows at hf
    split at hf
    · rename_i hc
      obtain ⟨hn, hlt, hfl⟩ := hc
      have hcl := hvr.cells.length
      have hsz : u.cells.size = k := by rw [← hn, hcl]; simp
      have hle2 : i' * k + k ≤ us.size := by
        have h1 := hz.len
        simp only [Array.length_toList] at h1
        rw [h1]
        have : (i' + 1) * k ≤ rs.length * k := Nat.mul_le_mul_right k hlt
        rw [Nat.add_mul] at this; omega
      have hset := setAll us (i' * k) u.cells.toList 0 (by simp; omega)
      simp only [Nat.add_zero] at hset
      have hz2 : VRR e k (rs.set i' x.cells) ((u.cells.zipIdx.foldl (fun cs (c, j) => cs.setIfInBounds (i' * k + j) c) us)).toList := by
        rw [← Array.foldl_toList]
        rw [show u.cells.zipIdx.toList = u.cells.toList.zipIdx 0 by simp]
        rw [hset]
        exact hz.set hvr.cells hfl hn hlt
      obtain ⟨ws, h1, h2, h3⟩ := fillRows_sound hz2 (by simpa using hl) (fun j p q hpj hqj => hp (j + 1) p q (by simpa using hpj) (by simpa using hqj)) hf
      refine ⟨ws, ?_, h2, by simpa using h3⟩
      simp only [Go.Instr.fill, hsz]
      simp only [ne_eq, not_true_eq_false, decide_false, Bool.false_or, decide_eq_true_eq]
      rw [if_neg (by omega)]
      exact h1
    · simp at hf

theorem op_mkSl {ty el : TypeId} {len k : Nat} {by_ : Bool} {ps : Array (Nat × Operand)} {z : List V} {qs : List (Nat × AOpd)} (ho : o.op = .buildSlice ty len ps) (_ : Sim C B e h w) (hρ : OpdR e t ρ) (hd : P.underlying ty = some (.slice el))
    (hk : szOf P el = some k) (hz : zeroT P el = some z) (hq : partsL ps.toList = some qs) (hzk : z.length = k) (hroom : len * k ≤ 16777216)
    (hev : (AOp.mkSl z by_ len qs).ev t.ev h = some (v, h')) : OpRes .alloc C B e h w ((Go.execOp ρ o).run P w) v h' := by
  simp only [AOp.ev] at hev
  obtain ⟨rs, hrs, hev⟩ := Option.bind_eq_some_iff.1 hev
  obtain ⟨zv, hzr, hzv⟩ := run_zero hz w
  obtain ⟨h1, h2⟩ := partsL_sound hρ hq
  rw [hzk] at hrs hev
  have hzs : zv.cells.size = k := by have := (hzv e).length; simp at this; omega
  -- the row of zeros, as the model has it
  let zr : Array Value := if len * k = 0 then #[] else zv.cells
  let us : Array Value := (Array.range (len * k)).map (zr[· % zr.size]!)
  have hzero : VRR e k (List.replicate len z) us.toList := by
    have := zrow (hzv e) hzk (zeroT_flat hz) len (fun q => zr[q % zr.size]!) (fun q hq => by
      have : zr = zv.cells := by simp only [zr]; rw [if_neg (by omega)]
      rw [this, hzs])
    simpa [us] using this
  obtain ⟨ws, hf, hvr, hlen⟩ := fillRows_sound (ps := ps.toList.map fun p => (p.1, ρ p.2)) hzero (by simp [h1]) (fun i p q hp hq => by
    rw [List.getElem?_map] at hp hq
    obtain ⟨p', hp', rfl⟩ := Option.map_eq_some_iff.1 hp
    obtain ⟨q', hq', rfl⟩ := Option.map_eq_some_iff.1 hq
    exact h2 i p' q' hp' hq') hrs
  simp only [List.length_replicate] at hlen
  have hrun : ∀ {A : Addr} {w' : World}, (Go.newRow el ws).run P w = .ok A w' → (Go.execOp ρ o).run P w = .ok (.value (.slice (some A) len len)) w' := by
    intro A w' hn
    have g1 : ¬ (len * k > 2 ^ 24) := by omega
    have e1 : (Array.map (fun (x : Nat × Operand) => (x.1, ρ x.2)) ps).toList = ps.toList.map fun p => (p.1, ρ p.2) := by simp
    simp only [Go.execOp, ho, Go.Instr.buildSlice, Go.Sem.run_bind, Go.run_underlying hd, Go.Result.andThen_ok, run_sz hk, g1, if_false, Go.Sem.run_pure, e1]
    by_cases h0 : len * k = 0
    · have hf2 : Go.Instr.fill (fun i => some (i * k, k)) ((Array.range (len * k)).map ((#[] : Array Value)[· % (#[] : Array Value).size]!)) (ps.toList.map fun p => (p.1, ρ p.2)) = some ws := by
        have : us = ((Array.range (len * k)).map ((#[] : Array Value)[· % (#[] : Array Value).size]!)) := by
          simp only [us, zr]; rw [if_pos h0]
        rw [← this]; exact hf
      simp only [h0, if_true] at hf2 ⊢
      simp only [hf2, Go.Sem.run_bind, hn, Go.Result.andThen_ok, Go.Sem.run_pure]
    · have hf2 : Go.Instr.fill (fun i => some (i * k, k)) ((Array.range (len * k)).map (zv.cells[· % zv.cells.size]!)) (ps.toList.map fun p => (p.1, ρ p.2)) = some ws := by
        have : us = ((Array.range (len * k)).map (zv.cells[· % zv.cells.size]!)) := by
          simp only [us, zr]; rw [if_neg h0]
        rw [← this]; exact hf
      simp only [h0, if_false, Go.Sem.run_bind, hzr, Go.Sem.run_pure, Go.Result.andThen_ok, hf2, hn]
  split at hev
  · obtain ⟨bs, hbs, hev⟩ := Option.bind_eq_some_iff.1 hev
    split at hev
    · rename_i hk1
      simp at hev; obtain ⟨rfl, rfl⟩ := hev
      have hcells := bytesOf_sound hbs (flatten_rows hvr)
      have hbl : bs.length = len := by
        have h3 := hvr.len
        rw [hcells, hlen, hk1] at h3
        simpa [bcells] using h3
      obtain ⟨g1, g2, g3⟩ := newRow_bytes (P := P) (C := C) (e := e) (h := h) (w := w) (el := el) (len := len) hcells (by omega)
      rw [hbl] at g2 g3
      exact ⟨_, _, _, _, _, hrun g1, rfl, rfl, rfl, rfl, g2, g3⟩
    · simp at hev
  · split at hev
    · simp at hev
    · rename_i hne
      simp at hev; obtain ⟨rfl, rfl⟩ := hev
      have hk0 : 0 < k := by rw [← hzk]; exact List.length_pos_iff.2 hne
      obtain ⟨g1, g2, g3⟩ := newRow_rows (P := P) (C := C) (e := e) (h := h) (w := w) (el := el) (len := len) hk0 hvr (by omega)
      rw [hlen] at g2 g3
      exact ⟨_, _, _, _, _, hrun g1, rfl, rfl, rfl, rfl, g2, g3⟩

/-! ### Maps -/
def KeyD (kk : KeyK) (d : TypeDesc) : Prop := match kk with | .int => ∃ k, d = .int k | .str => d = .string | .bool => d = .bool
theorem VR.m0_inv {u : Value} (h : VR e (.m none) u) : u = .map none := by cases h; rfl
theorem VR.m_inv {b : Nat} {u : Value} {l : Loc} (h : VR e (.m (some b)) u) (hl : e b = some l) : u = .map (some l.cb) := by
  cases h with | m _ l' h1 => rw [hl] at h1; cases h1; rfl
theorem VR.tup_inv {vs : List V} {u : Value} (h : VR e (.tup vs) u) : ∃ ws : Array Value, u = .tuple ws ∧ VRL e vs ws.toList := by cases h with | tup _ ws h => exact ⟨ws, rfl, h⟩
theorem beq_bytes (a b : ByteArray) : (a == b) = decide (a.data.toList = b.data.toList) := by
  show (a.data == b.data) = _
  rw [Bool.eq_iff_iff]; simp

theorem key_desc {kt : TypeId} {kk : KeyK} (h : keyKind P kt = some kk) : ∃ d, P.underlying kt = some d ∧ KeyD kk d := by
  unfold keyKind at h
  split at h <;> simp at h <;> subst h
  · exact ⟨_, ‹_›, _, rfl⟩
  · exact ⟨_, ‹_›, rfl⟩
  · exact ⟨_, ‹_›, rfl⟩

theorem keyEq_sound {kk : KeyK} {d : TypeDesc} {x y : V} {a b : Value} {r : Bool} (hd : KeyD kk d) (hx : VR e x a) (hy : VR e y b) (h : keyEq kk x y = some r) :
    Go.Instr.sameNow d a b = some r ∧ (r = true → Go.Instr.sameBits 10000 b a = true) ∧ (r = true → x = y) := by
  unfold keyEq at h
  split at h
  · have hd : d = .string := hd
    subst hd
    obtain ⟨sa, rfl, rfl⟩ := hx.s_inv
    obtain ⟨sb, rfl, rfl⟩ := hy.s_inv
    simp only [Option.some.injEq] at h; subst h
    refine ⟨?_, fun hr => ?_, fun hr => ?_⟩
    · simp only [Go.Instr.sameNow, beq_bytes]
    · simp only [decide_eq_true_eq] at hr
      simp only [Go.Instr.sameBits, beq_bytes, hr, decide_true]
    · simp at hr; rw [hr]
  · have hd : ∃ k, d = .int k := hd
    obtain ⟨kd, rfl⟩ := hd
    have h1 := hx.i_inv; have h2 := hy.i_inv; subst h1 h2
    split at h
    · rename_i hk; subst hk
      simp at h; subst h
      refine ⟨?_, fun hr => ?_, fun hr => ?_⟩
      · simp only [Go.Instr.sameNow, if_true, Option.some.injEq]
        rw [Bool.eq_iff_iff]; simp
      · simp at hr; subst hr; simp [Go.Instr.sameBits]
      · simp at hr; subst hr; rfl
    · simp at h
  · have hd : d = .bool := hd
    subst hd
    have h1 := hx.b_inv; have h2 := hy.b_inv; subst h1 h2
    simp at h; subst h
    refine ⟨rfl, fun hr => ?_, fun hr => ?_⟩
    · simp at hr; subst hr; simp [Go.Instr.sameBits]
    · simp at hr; subst hr; rfl
  · simp at h

theorem findKey_sound {kk : KeyK} {d : TypeDesc} {x : V} {a : Value} (hd : KeyD kk d) (hx : VR e x a) : ∀ {es : List (V × V)} {ces : List Go.MapEntry} {r : Option V} (i : Nat),
    VRL e (es.map (·.1)) (ces.map (·.key)) → VRL e (es.map (·.2)) (ces.map (·.val)) → findKey kk x es = some r →
    (r = none ∧ Go.Instr.findNow d a ces i = some none) ∨ ∃ j u y, r = some y ∧ Go.Instr.findNow d a ces i = some (some (i + j, u)) ∧ VR e y u ∧ (ces[j]?).map (·.val) = some u ∧ (∃ ko, (ces[j]?).map (·.key) = some ko ∧ Go.Instr.sameBits 10000 ko a = true)
  | [], ces, r, i, hk, hv, h => by
    simp [findKey] at h; subst h
    have : ces = [] := by
      have := hk.length; simp at this; exact List.length_eq_zero_iff.1 this.symm
    subst this
    exact .inl ⟨rfl, rfl⟩
  | en :: es, [], r, i, hk, hv, h => by have := hk.length; simp at this
  | en :: es, ce :: ces, r, i, hk, hv, h => by
    simp only [List.map_cons] at hk hv
    cases hk with
    | cons _ _ _ _ hk0 hks =>
      cases hv with
      | cons _ _ _ _ hv0 hvs =>
        unfold Am.findKey at h
        split at h
        · rename_i hq
          simp at h; subst h
          obtain ⟨g1, g2, _⟩ := keyEq_sound hd hx hk0 hq
          refine .inr ⟨0, ce.val, en.2, rfl, ?_, hv0, rfl, ce.key, rfl, g2 rfl⟩
          simp [Go.Instr.findNow, g1]
        · rename_i hq
          obtain ⟨g1, _, _⟩ := keyEq_sound hd hx hk0 hq
          rcases findKey_sound hd hx (i + 1) hks hvs h with ⟨h1, h2⟩ | ⟨j, u, y, h1, h2, h3, h4, h5⟩
          · exact .inl ⟨h1, by simp [Go.Instr.findNow, g1, h2]⟩
          · refine .inr ⟨j + 1, u, y, h1, ?_, h3, by simpa using h4, by simpa using h5⟩
            simp only [Go.Instr.findNow, g1, h2]
            congr 3; omega
        · simp at h

theorem checkKey_run {b : Bool} {kt : TypeId} {kk : KeyK} {a : Value} (hk : keyKind P kt = some kk) : (Go.Instr.checkKey b 10000 kt a).run P w = .ok () w := by
  obtain ⟨d, hd, hm⟩ := key_desc hk
  have h10 : (10000 : Nat) = 9999 + 1 := rfl
  rw [h10]
  unfold Go.Instr.checkKey
  simp only [Go.Sem.run_bind, Go.run_underlying hd, Go.Result.andThen_ok]
  cases kk
  · obtain ⟨k, rfl⟩ : ∃ k, d = .int k := hm; rfl
  · have : d = .string := hm; subst this; rfl
  · have : d = .bool := hm; subst this; rfl

theorem op_lk {ty kt et : TypeId} {kk : KeyK} {z : V} {ok : Bool} {M K : Operand} {m k : AOpd} (ho : o.op = .lookup ty M K ok) (s : Sim C B e h w) (hρ : OpdR e t ρ) (hm : opd M = some m) (hk : opd K = some k) (hd : P.underlying ty = some (.map kt et))
    (hkk : keyKind P kt = some kk) (hz : zeroV P et = some z) (hev : (AOp.lk kk z ok m k).ev t.ev h = some (v, h')) : OpRes .read C B e h w ((Go.execOp ρ o).run P w) v h' := by
  simp only [AOp.ev] at hev
  have vm := hρ _ _ hm
  have vk := hρ _ _ hk
  obtain ⟨zv, hzr, hzv⟩ := run_zeroV hz w
  obtain ⟨d, hdk, hmk⟩ := key_desc hkk
  have res : ∀ (y : V) (u : Value) (b : Bool), VR e y u → VR e (if ok then .tup [y, .b b] else y) (if ok then .tuple #[u, .bool b] else u) := by
    intro y u b hyu
    cases ok
    · exact hyu
    · exact .tup _ _ (.cons _ _ _ _ hyu (.cons _ _ _ _ (.b b) .nil))
  split at hev
  · rename_i hp
    rw [hp] at vm; simp at hev
    obtain ⟨rfl, rfl⟩ := hev
    have hu : ρ M = .map none := vm.m0_inv
    refine OpRes.read s (u := if ok then .tuple #[zv, .bool false] else zv) ?_ (res z zv false (hzv e))
    simp only [Go.execOp, ho, hu, Go.Instr.lookup, Go.Sem.run_bind, Go.run_underlying hd, Go.Result.andThen_ok, Go.Sem.run_pure, checkKey_run hkk]
    simp [Go.Instr.findKey, Go.run_underlying hdk, Go.Instr.findNow, hzr]
  · rename_i r hp
    rw [hp] at vm
    split at hev
    · rename_i es hb
      obtain ⟨x, hx, hev⟩ := Option.bind_eq_some_iff.1 hev
      obtain ⟨l, hl, hB, _, _⟩ := s.blk r _ hb
      obtain ⟨ces, clock, hheap, hks, hvs⟩ := hB
      have hu : ρ M = .map (some l.cb) := vm.m_inv hl
      have hget : (Go.getObj l.cb).run P w = .ok (.map ces clock) w := by simp [Go.getObj, Go.Sem.run, hheap]
      rcases findKey_sound hmk vk 0 hks hvs hx with ⟨rfl, hf⟩ | ⟨j, u, y, rfl, hf, hvu, _, _⟩
      · simp at hev
        obtain ⟨rfl, rfl⟩ := hev
        refine OpRes.read s (u := if ok then .tuple #[zv, .bool false] else zv) ?_ (res z zv false (hzv e))
        simp only [Go.execOp, ho, hu, Go.Instr.lookup, Go.Sem.run_bind, Go.run_underlying hd, Go.Result.andThen_ok, Go.Sem.run_pure, hget, checkKey_run hkk]
        simp [Go.Instr.findKey, Go.run_underlying hdk, hf, hzr]
      · simp at hev
        obtain ⟨rfl, rfl⟩ := hev
        refine OpRes.read s (u := if ok then .tuple #[u, .bool true] else u) ?_ (res y u true hvu)
        simp only [Go.execOp, ho, hu, Go.Instr.lookup, Go.Sem.run_bind, Go.run_underlying hd, Go.Result.andThen_ok, Go.Sem.run_pure, hget, checkKey_run hkk]
        simp [Go.Instr.findKey, Go.run_underlying hdk, hf]
    · simp at hev
  · simp at hev

theorem putKey_none {kk : KeyK} {x y : V} : ∀ {es es' : List (V × V)}, findKey kk x es = some none → putKey kk x y es = some es' → es' = es ++ [(x, y)]
  | [], es', _, h => by simp [putKey] at h; exact h.symm
  | en :: es, es', hf, h => by
    unfold Am.findKey at hf
    unfold putKey at h
    split at hf
    · simp at hf
    · rename_i hq
      rw [hq] at h
      simp only at h
      obtain ⟨es2, h2, h⟩ := Option.bind_eq_some_iff.1 h
      cases h
      rw [putKey_none hf h2]; rfl
    · simp at hf

theorem putKey_find {kk : KeyK} {x y : V} : ∀ {es es' : List (V × V)}, putKey kk x y es = some es' → ∃ r, findKey kk x es = some r
  | [], es', h => ⟨none, rfl⟩
  | en :: es, es', h => by
    unfold putKey at h
    unfold Am.findKey
    split at h
    · rename_i hq; exact ⟨_, rfl⟩
    · rename_i hq
      obtain ⟨es2, h2, h⟩ := Option.bind_eq_some_iff.1 h
      exact putKey_find h2
    · simp at h

/-- At the place where the key was found. -/
theorem putKey_some {kk : KeyK} {d : TypeDesc} {x y : V} {a b : Value} (hd : KeyD kk d) (hx : VR e x a) (hy : VR e y b) : ∀ {es es' : List (V × V)} {ces : List Go.MapEntry} (i j : Nat) (u : Value),
    VRL e (es.map (·.1)) (ces.map (·.key)) → VRL e (es.map (·.2)) (ces.map (·.val)) → putKey kk x y es = some es' → Go.Instr.findNow d a ces i = some (some (i + j, u)) → ∀ f : Go.MapEntry → Go.MapEntry, (∀ en, (f en).key = a ∧ (f en).val = b) →
    VRL e (es'.map (·.1)) ((ces.modify j f).map (·.key)) ∧ VRL e (es'.map (·.2)) ((ces.modify j f).map (·.val))
  | [], es', ces, i, j, u, hk, hv, h, hf, f, hff => by
    have : ces = [] := by
      have := hk.length; simp at this; exact List.length_eq_zero_iff.1 this.symm
    subst this
    simp [Go.Instr.findNow] at hf
  | en :: es, es', [], i, j, u, hk, hv, h, hf, f, hff => by have := hk.length; simp at this
  | en :: es, es', ce :: ces, i, j, u, hk, hv, h, hf, f, hff => by
    simp only [List.map_cons] at hk hv
    cases hk with
    | cons _ _ _ _ hk0 hks =>
      cases hv with
      | cons _ _ _ _ hv0 hvs =>
        unfold putKey at h
        split at h
        · rename_i hq
          simp at h; subst h
          obtain ⟨g1, _, _⟩ := keyEq_sound hd hx hk0 hq
          simp only [Go.Instr.findNow, g1, Option.some.injEq, Prod.mk.injEq] at hf
          have : j = 0 := by omega
          subst this
          simp only [List.modify_zero_cons, List.map_cons, (hff ce).1, (hff ce).2]
          exact ⟨.cons _ _ _ _ hx hks, .cons _ _ _ _ hy hvs⟩
        · rename_i hq
          obtain ⟨es2, h2, h⟩ := Option.bind_eq_some_iff.1 h
          cases h
          obtain ⟨g1, _, _⟩ := keyEq_sound hd hx hk0 hq
          simp only [Go.Instr.findNow, g1] at hf
          have hj : ∃ j', j = j' + 1 := by
            obtain ⟨r, hr⟩ := putKey_find h2
            rcases findKey_sound hd hx (i + 1) hks hvs hr with ⟨_, h5⟩ | ⟨j', u', _, _, h5, _⟩
            · rw [h5] at hf; simp at hf
            · rw [h5] at hf; simp at hf; exact ⟨j', by omega⟩
          obtain ⟨j', rfl⟩ := hj
          have ih := putKey_some hd hx hy (i + 1) j' u hks hvs h2 (by rw [hf]; congr 3; omega) f hff
          simp only [List.modify_succ_cons, List.map_cons]
          exact ⟨.cons _ _ _ _ hk0 ih.1, .cons _ _ _ _ hv0 ih.2⟩
        · simp at h

theorem op_mu {ty kt et : TypeId} {kk : KeyK} {M K X : Operand} {m k x : AOpd} (ho : o.op = .mapUpdate ty M K X ∨ o.op = .insert ty M K X) (s : Sim C B e h w) (hρ : OpdR e t ρ) (hm : opd M = some m) (hk : opd K = some k) (hx : opd X = some x) (hd : P.underlying ty = some (.map kt et))
    (hkk : keyKind P kt = some kk) (hev : (AOp.mu kk m k x).ev t.ev h = some (v, h')) : OpRes .eff C B e h w ((Go.execOp ρ o).run P w) v h' := by
  simp only [AOp.ev] at hev
  have vm := hρ _ _ hm
  have vk := hρ _ _ hk
  have vx := hρ _ _ hx
  obtain ⟨d, hdk, hmk⟩ := key_desc hkk
  split at hev
  · rename_i r hp
    rw [hp] at vm
    split at hev
    · rename_i es hb
      obtain ⟨es', hput, hev⟩ := Option.bind_eq_some_iff.1 hev
      cases hev
      obtain ⟨l, hl, hB, hlt, _⟩ := s.blk r _ hb
      obtain ⟨ces, clock, hheap, hks, hvs⟩ := hB
      have hu : ρ M = .map (some l.cb) := vm.m_inv hl
      have hget : (Go.getObj l.cb).run P w = .ok (.map ces clock) w := by simp [Go.getObj, Go.Sem.run, hheap]
      have hset : ∀ ob, (Go.setObj l.cb ob).run P w = .ok () { w with heap := w.heap.setIfInBounds l.cb ob } := by intro ob; simp [Go.setObj, Go.Sem.run, hheap]
      have hex : (Go.execOp ρ o) = (do Go.Instr.mapUpdate ty (ρ M) (ρ K) (ρ X); pure .skip) := by rcases ho with ho | ho <;> simp [Go.execOp, ho]
      have fin : ∀ ob, (∀ e', BlkR C e' (.map es') l { w with heap := w.heap.setIfInBounds l.cb ob } ∨ e' ≠ e) → Stp C B e h w e (h.set r (.map es')) { w with heap := w.heap.setIfInBounds l.cb ob } := by
        intro ob hob
        refine Stp.set s hb rfl hl (fun c hc => ?_) (by simp) ((hob e).resolve_right (by simp))
        simp only [Array.getElem?_setIfInBounds]
        rw [if_neg (fun hh => hc hh.symm)]
      have hat : ∀ ob, ({ w with heap := w.heap.setIfInBounds l.cb ob } : World).heap[l.cb]? = some ob := by
        intro ob; simp [hlt]
      obtain ⟨fr, hfr⟩ := putKey_find hput
      rcases findKey_sound hmk vk 0 hks hvs hfr with ⟨rfl, hf⟩ | ⟨j, u, y, rfl, hf, hvu, hcv, ko, hko, hsb⟩
      · have hes := putKey_none hfr hput
        refine ⟨Go.undef, _, e, .inr ⟨?_, rfl⟩, VR.un, fin (.map (ces.push { key := ρ K, val := ρ X, born := clock }) (clock + 1)) fun e' => ?_⟩
        · rw [hex]
          simp only [Go.Instr.mapUpdate, hu, Go.Sem.run_bind, Go.run_underlying hd, Go.Result.andThen_ok, hget, checkKey_run hkk, Go.Instr.findKey, Go.run_underlying hdk, hf, Go.Sem.run_pure, hset]
        · by_cases he : e' = e
          · subst he
            refine .inl ⟨_, _, hat _, ?_, ?_⟩
            · rw [hes]; simpa using hks.append (.cons _ _ _ _ vk .nil)
            · rw [hes]; simpa using hvs.append (.cons _ _ _ _ vx .nil)
          · exact .inr he
      · simp only [Nat.zero_add] at hf
        have hce : ces[j]? = ces.toList[j]? := by simp
        have hkeep : ((Go.Instr.keyThatStays (((ces[j]?).map (·.key)).getD (ρ K)) (ρ K)).run P w) = .ok (ρ K) w := by
          rw [hce, hko]
          simp [Go.Instr.keyThatStays, hsb]
        refine ⟨Go.undef, _, e, .inr ⟨?_, rfl⟩, VR.un, fin (.map (ces.modify j fun en => { en with key := ρ K, val := ρ X }) clock) fun e' => ?_⟩
        · rw [hex]
          simp only [Go.Instr.mapUpdate, hu, Go.Sem.run_bind, Go.run_underlying hd, Go.Result.andThen_ok, hget, checkKey_run hkk, Go.Instr.findKey, Go.run_underlying hdk, hf, Go.Sem.run_pure, hkeep, hset]
        · by_cases he : e' = e
          · subst he
            have := putKey_some hmk vk vx 0 j u hks hvs hput (by simpa using hf) (fun en => { en with key := ρ K, val := ρ X }) (fun en => ⟨rfl, rfl⟩)
            refine .inl ⟨_, _, hat _, ?_, ?_⟩
            · simpa [Array.toList_modify] using this.1
            · simpa [Array.toList_modify] using this.2
          · exact .inr he
    · simp at hev
  · simp at hev

/-! ### Iterators over strings -/
theorem op_rngS {ty : TypeId} {X : Operand} {x : AOpd} (ho : o.op = .range ty X) (_ : Sim C B e h w) (hρ : OpdR e t ρ) (hx : opd X = some x) (hd : P.underlying ty = some .string) (hev : (AOp.rngS x).ev t.ev h = some (v, h')) : OpRes .alloc C B e h w ((Go.execOp ρ o).run P w) v h' := by
  simp only [AOp.ev] at hev
  have vx := hρ _ _ hx
  split at hev
  · rename_i l hp
    rw [hp] at vx; simp at hev; obtain ⟨rfl, rfl⟩ := hev
    obtain ⟨b', hb', hl⟩ := vx.s_inv
    refine ⟨.pointer (some ⟨w.heap.size, 0, none⟩), { w with heap := w.heap.push (.stringIter b' 0) }, .stringIter b' 0, _, ⟨w.heap.size, 0, 1, 0⟩, ?_, rfl, rfl, rfl, rfl, fun e' _ => ⟨rfl, rfl, b', push_get (w := w) rfl, hl⟩, ?_⟩
    · simp [Go.execOp, ho, hb', Go.Instr.range, Go.run_underlying hd]
    · have := VR.p (e := e.add h.nx ⟨w.heap.size, 0, 1, 0⟩) h.nx 0 0 _ (Emb.add_same _ _ _)
      simpa using this
  · simp at hev

theorem op_nextS {X : Operand} {x : AOpd} (ho : o.op = .next X true) (s : Sim C B e h w) (hρ : OpdR e t ρ) (hx : opd X = some x) (hev : (AOp.nextS x).ev t.ev h = some (v, h')) : OpRes .eff C B e h w ((Go.execOp ρ o).run P w) v h' := by
  simp only [AOp.ev] at hev
  have vx := hρ _ _ hx
  split at hev
  · rename_i b hp
    rw [hp] at vx
    split at hev
    · rename_i l pos hb
      obtain ⟨lc, hl, hB, hlt, _⟩ := s.blk b _ hb
      obtain ⟨h1, h2, bs, hheap, hbs⟩ := hB
      obtain ⟨lc', hl', hu⟩ := vx.p_inv
      rw [hl] at hl'; cases hl'
      rw [h2] at hu
      simp only [Nat.zero_mul, Nat.add_zero] at hu
      have hget : (Go.getObj lc.cb).run P w = .ok (.stringIter bs pos) w := by simp [Go.getObj, Go.Sem.run, hheap]
      have hset : ∀ ob, (Go.setObj lc.cb ob).run P w = .ok () { w with heap := w.heap.setIfInBounds lc.cb ob } := by intro ob; simp [Go.setObj, Go.Sem.run, hheap]
      have hsz : bs.size = l.length := by rw [← hbs]; exact Array.length_toList.symm
      have hbb : (⟨l.toArray⟩ : ByteArray) = bs := by apply ByteArray.ext; rw [← hbs]
      split at hev
      · rename_i hpos
        rw [hbb] at hev
        simp at hev; obtain ⟨rfl, rfl⟩ := hev
        refine ⟨.tuple #[.bool true, .int .i64 pos, .int .i32 (Go.Utf8.decode bs pos).1], { w with heap := w.heap.setIfInBounds lc.cb (.stringIter bs (pos + (Go.Utf8.decode bs pos).2)) }, e, .inl ?_, ?_, ?_⟩
        · simp [Go.execOp, ho, hu, Go.Instr.next, hget, hsz, hpos, hset, Go.goInt]
        · exact .tup _ _ (.cons _ _ _ _ (.b _) (.cons _ _ _ _ (.i _ _) (.cons _ _ _ _ (.i _ _) .nil)))
        · refine Stp.set s hb rfl hl (fun c hc => ?_) (by simp) ⟨h1, h2, bs, by simp [hlt], hbs⟩
          simp only [Array.getElem?_setIfInBounds]
          rw [if_neg (fun hh => hc hh.symm)]
      · rename_i hpos
        simp at hev; obtain ⟨rfl, rfl⟩ := hev
        refine ⟨.tuple #[.bool false], w, e, .inl ?_, .tup _ _ (.cons _ _ _ _ (.b _) .nil), Stp.refl s⟩
        simp [Go.execOp, ho, hu, Go.Instr.next, hget, hsz, hpos]
    · simp at hev
  · simp at hev

theorem op_ext {X : Operand} {x : AOpd} {i : Nat} (ho : o.op = .extract X i) (s : Sim C B e h w) (hρ : OpdR e t ρ) (hx : opd X = some x) (hev : (AOp.ext x i).ev t.ev h = some (v, h')) : OpRes .pure C B e h w ((Go.execOp ρ o).run P w) v h' := by
  simp only [AOp.ev] at hev
  have vx := hρ _ _ hx
  split at hev
  · rename_i vs hp
    rw [hp] at vx
    obtain ⟨y, hy, hev⟩ := Option.bind_eq_some_iff.1 hev
    cases hev
    obtain ⟨ws, hX, hvs⟩ := vx.tup_inv
    obtain ⟨u, hu, hv⟩ := hvs.get i _ hy
    refine OpRes.pure s (u := u) ?_ hv
    have : ws[i]? = some u := by simpa using hu
    simp [Go.execOp, ho, hX, Go.Instr.extract, this]
  · simp at hev

end Am

/- AmOps6: the builtins; each operation, once more, as one theorem. -/
namespace Am
set_option linter.unusedVariables false
set_option linter.unusedSimpArgs false
open Go (IntKind BinOp UnOp Value Program TypeId TypeDesc Operand Oper Code Tmp World Addr Obj Act)

variable {P : Program} {C : Cx} {B : Nat} {e e' : Emb} {h h' : H} {w w' : World} {t : Tm} {ρ : Operand → Value} {o : Oper} {v : V}

/-- A builtin's run. -/
theorem run_builtin {c : Go.Call} {b : Go.Builtin} (ho : o.op = .call c) (hb : c.callee = .builtin b) {s : Go.Sem Value} {u : Value} (hs : s.run P w = .ok u w')
    (hbu : ∀ xs, Go.builtin b c.argTypes o.type xs (c.args.map ρ) = (do pure (.value (← s)))) : (Go.execOp ρ o).run P w = .ok (.value u) w' := by
  simp only [Go.execOp, ho, Go.resolve, hb, Go.Sem.run_bind, Go.Sem.run_pure, Go.Result.andThen_ok, Go.invoke]
  rw [hbu]
  simp only [Go.Sem.run_bind, hs, Go.Result.andThen_ok, Go.Sem.run_pure]

theorem two_args {as : Array Operand} {a b : AOpd} (hρ : OpdR e t ρ) (h : opds as.toList = some [a, b]) : ∃ x y, as = #[x, y] ∧ VR e (t.ev a) (ρ x) ∧ VR e (t.ev b) (ρ y) := by
  obtain ⟨l⟩ := as
  match l, h with
  | [], h => simp [opds] at h
  | [x], h =>
    simp only [opds] at h
    obtain ⟨a', _, h⟩ := Option.bind_eq_some_iff.1 h
    simp at h
  | [x, y], h =>
    simp only [opds] at h
    obtain ⟨a', ha, h⟩ := Option.bind_eq_some_iff.1 h
    obtain ⟨r, hr, h⟩ := Option.bind_eq_some_iff.1 h
    obtain ⟨b', hb, hr⟩ := Option.bind_eq_some_iff.1 hr
    simp at hr; subst hr
    simp at h
    obtain ⟨rfl, rfl⟩ := h
    exact ⟨x, y, rfl, hρ _ _ ha, hρ _ _ hb⟩
  | x :: y :: z :: l, h =>
    simp only [opds] at h
    obtain ⟨a', ha, h⟩ := Option.bind_eq_some_iff.1 h
    obtain ⟨r, hr, h⟩ := Option.bind_eq_some_iff.1 h
    obtain ⟨b', hb, hr⟩ := Option.bind_eq_some_iff.1 hr
    obtain ⟨r2, hr2, hr⟩ := Option.bind_eq_some_iff.1 hr
    obtain ⟨c', hc, hr2⟩ := Option.bind_eq_some_iff.1 hr2
    obtain ⟨r3, hr3, hr2⟩ := Option.bind_eq_some_iff.1 hr2
    cases hr2; cases hr; simp at h
theorem first_arg {as : Array Operand} {a : AOpd} {rest : List AOpd} (hρ : OpdR e t ρ) (h : opds as.toList = some (a :: rest)) : ∃ x xs, as.toList = x :: xs ∧ VR e (t.ev a) (ρ x) ∧ VRL e (rest.map t.ev) (xs.map ρ) := by
  obtain ⟨l⟩ := as
  cases l with
  | nil => simp [opds] at h
  | cons x xs =>
    simp only [opds] at h
    obtain ⟨a', ha, h⟩ := Option.bind_eq_some_iff.1 h
    obtain ⟨r, hr, h⟩ := Option.bind_eq_some_iff.1 h
    cases h
    exact ⟨x, xs, rfl, hρ _ _ ha, hρ.list hr⟩

theorem args0 {as : Array Operand} {x : Operand} {xs : List Operand} (h : as.toList = x :: xs) : (as.map ρ)[0]? = some (ρ x) := by
  obtain ⟨l⟩ := as
  simp at h; subst h; simp
theorem types0 {ts : Array TypeId} {x : TypeId} {xs : List TypeId} (h : ts.toList = x :: xs) : ts[0]? = some x := by
  obtain ⟨l⟩ := ts
  simp at h; subst h; simp
theorem types1 {ts : Array TypeId} {x y : TypeId} {xs : List TypeId} (h : ts.toList = x :: y :: xs) : ts[1]? = some y := by
  obtain ⟨l⟩ := ts
  simp at h; subst h; simp

theorem op_len {c : Go.Call} {ty : TypeId} {ts : List TypeId} {x : AOpd} {rest : List AOpd} {k : LenK} (ho : o.op = .call c) (hb : c.callee = .builtin .len) (s : Sim C B e h w) (hρ : OpdR e t ρ) (hts : c.argTypes.toList = ty :: ts) (has : opds c.args.toList = some (x :: rest))
    (hd : match k with | .str => P.underlying ty = some .string | .sl => ∃ el, P.underlying ty = some (.slice el) | .map => ∃ a b, P.underlying ty = some (.map a b))
    (hev : (AOp.lenV k x).ev t.ev h = some (v, h')) : OpRes (AOp.lenV k x).kind C B e h w ((Go.execOp ρ o).run P w) v h' := by
  simp only [AOp.ev] at hev
  obtain ⟨X, xs, hX, vx, _⟩ := first_arg hρ has
  have h0 := types0 hts
  have h1 := args0 (ρ := ρ) hX
  have key : ∀ {n : Nat}, (Go.Builtin.len_ c.argTypes o.type (c.args.map ρ)).run P w = .ok (.int .i64 n) w → OpRes (AOp.lenV k x).kind C B e h w ((Go.execOp ρ o).run P w) (.i .i64 n) h := fun hr => by
    cases k <;> exact ⟨rfl, _, run_builtin ho hb hr fun _ => rfl, .i _ _⟩
  split at hev
  · rename_i l hp
    rw [hp] at vx; simp at hev; obtain ⟨rfl, rfl⟩ := hev
    obtain ⟨b', hb', hl⟩ := vx.s_inv
    refine key ?_
    have : b'.size = l.length := by rw [← hl]; exact Array.length_toList.symm
    simp only at hd
    simp [Go.Builtin.len_, h0, h1, hb', Go.run_underlying hd, Go.goInt, this]
  · rename_i n cp ex hp
    rw [hp] at vx; simp at hev; obtain ⟨rfl, rfl⟩ := hev
    obtain ⟨el, hd⟩ := hd
    refine key ?_
    have : ∃ A c', ρ X = .slice A n c' := by
      generalize ρ X = u at *
      cases vx with
      | sl0 => exact ⟨_, _, rfl⟩
      | sl => exact ⟨_, _, rfl⟩
    obtain ⟨A, c', hu⟩ := this
    simp [Go.Builtin.len_, h0, h1, hu, Go.run_underlying hd, Go.goInt]
  · rename_i hp
    rw [hp] at vx; simp at hev; obtain ⟨rfl, rfl⟩ := hev
    obtain ⟨a, b, hd⟩ := hd
    have := key (n := 0) (by simp [Go.Builtin.len_, h0, h1, vx.m0_inv, Go.run_underlying hd, Go.goInt])
    simpa using this
  · rename_i r hp
    rw [hp] at vx
    obtain ⟨a, b, hd⟩ := hd
    split at hev
    · rename_i es hbk
      simp at hev; obtain ⟨rfl, rfl⟩ := hev
      obtain ⟨l, hl, hB, hlt, _⟩ := s.blk r _ hbk
      obtain ⟨ces, clock, hheap, hks, hvs⟩ := hB
      have hlen := hks.length
      simp only [List.length_map, Array.length_toList] at hlen
      have hget : (Go.getObj l.cb).run P w = .ok (.map ces clock) w := by simp [Go.getObj, Go.Sem.run, hheap]
      exact key (by simp [Go.Builtin.len_, h0, h1, vx.m_inv hl, Go.run_underlying hd, Go.goInt, hget, hlen])
    · simp at hev
  · simp at hev

theorem op_cap {c : Go.Call} {ty el : TypeId} {ts : List TypeId} {x : AOpd} {rest : List AOpd} (ho : o.op = .call c) (hb : c.callee = .builtin .cap) (s : Sim C B e h w) (hρ : OpdR e t ρ) (hts : c.argTypes.toList = ty :: ts) (has : opds c.args.toList = some (x :: rest))
    (hd : P.underlying ty = some (.slice el)) (hev : (AOp.capV x).ev t.ev h = some (v, h')) : OpRes .pure C B e h w ((Go.execOp ρ o).run P w) v h' := by
  simp only [AOp.ev] at hev
  obtain ⟨X, xs, hX, vx, _⟩ := first_arg hρ has
  have h0 := types0 hts
  have h1 := args0 (ρ := ρ) hX
  split at hev
  · rename_i n cp hp
    rw [hp] at vx; simp at hev; obtain ⟨rfl, rfl⟩ := hev
    have : ∃ A n', ρ X = .slice A n' cp := by
      generalize ρ X = u at *
      cases vx with
      | sl0 => exact ⟨_, _, rfl⟩
      | sl _ _ _ _ _ _ _ _ _ _ _ h3 => have := h3 rfl; subst this; exact ⟨_, _, rfl⟩
    obtain ⟨A, n', hu⟩ := this
    refine OpRes.pure s (u := .int .i64 cp) (run_builtin ho hb (w' := w) (u := .int .i64 cp) (s := Go.Builtin.cap_ c.argTypes o.type (c.args.map ρ)) ?_ fun _ => rfl) (.i _ _)
    simp [Go.Builtin.cap_, h0, h1, hu, Go.run_underlying hd, Go.goInt]
  · simp at hev

/-! ### append -/
def isI : TypeDesc → Bool
  | .int _ => true
  | _ => false
theorem append_unfold {ty u el : TypeId} {k n : Nat} {base : Option Addr} {sLen sCap : Nat} {x : Value} {ats : Array TypeId} {rt : TypeId} {ut : TypeDesc} (h0 : ats[0]? = some ty) (h1 : ats[1]? = some u) (hd : P.underlying ty = some (.slice el)) (hk : szOf P el = some k)
    (hu : P.underlying u = some ut) (hz : isI ut = false) (hn : (Go.Builtin.lenOf x).run P w = .ok n w) :
    (Go.Builtin.append_ ats rt #[.slice base sLen sCap, x]).run P w = (appCore el k base sLen sCap n false x (Go.Builtin.firstCells k n x)).run P w := by
  unfold Go.Builtin.append_
  simp only [h0, h1, show (#[Value.slice base sLen sCap, x] : Array Value)[0]? = some (.slice base sLen sCap) from rfl, show (#[Value.slice base sLen sCap, x] : Array Value)[1]? = some x from rfl]
  rw [Go.Sem.run_bind, Go.run_underlying hd]
  dsimp only [Go.Result.andThen]
  rw [Go.Sem.run_bind, run_sz hk]
  dsimp only [Go.Result.andThen]
  rw [Go.Sem.run_bind, Go.run_underlying hu]
  dsimp only [Go.Result.andThen]
  rw [Go.Sem.run_bind, Go.Sem.run_pure]
  dsimp only [Go.Result.andThen]
  have key : ∀ z : Bool, z = false → (Go.Sem.run P (do
      let n ← if z then do
          let l := IntKind.i64.wrap (← Go.asInt x)
          if l < 0 then Go.runtimePanic (.error "makeslice: len out of range")
          if l * (← Go.typeInfo el).bytes > 2 ^ 48 then
            let made ← Go.choose (.extern "append.ofMake.carriedOut" 2)
            Go.runtimePanic (.error (if made == 1 then "makeslice: len out of range" else "growslice: len out of range"))
          pure l.toNat
        else Go.Builtin.lenOf x
      appCore el k base sLen sCap n z x (if !z then Go.Builtin.firstCells k n x else if n * k = 0 then pure #[] else do pure (Go.Builtin.zeroCells (← Go.zeroValue el).cells n))) w) =
        (appCore el k base sLen sCap n false x (Go.Builtin.firstCells k n x)).run P w := by
    intro z hz
    subst hz
    rw [if_neg (by simp), Go.Sem.run_bind, hn]
    rfl
  exact (show _ = _ from rfl).trans (key (isI ut) hz)

theorem isInt_desc {u : TypeId} {b : Bool} (h : isIntT P u = some b) : ∃ d, P.underlying u = some d ∧ isI d = b := by
  unfold isIntT at h
  split at h
  · simp at h; subst h; exact ⟨_, ‹_›, rfl⟩
  · simp at h; subst h
    rename_i d hne hd
    refine ⟨d, hd, ?_⟩
    cases d <;> first | rfl | (exact (hne _ rfl).elim)
  · simp at h

theorem op_app {c : Go.Call} {ty u el : TypeId} {ts : List TypeId} {S X : AOpd} {k bytes : Nat} {by_ : Bool} {z : List V} (ho : o.op = .call c) (hb : c.callee = .builtin .append) (s : Sim C B e h w) (hρ : OpdR e t ρ) (hts : c.argTypes.toList = ty :: u :: ts)
    (has : opds c.args.toList = some [S, X]) (hd : P.underlying ty = some (.slice el)) (hk : szOf P el = some k) (hby : bytesOfT P el = some bytes) (hbt : isByte P el = some by_) (hzs : isIntT P u = some false) (hz : zeroT P el = some z) (hzk : z.length = k) (hk0 : k ≠ 0)
    (hb1 : by_ = true → z = [.i .u8 0]) (hev : (AOp.app by_ k bytes S X).ev t.ev h = some (v, h')) : OpRes .eff C B e h w ((Go.execOp ρ o).run P w) v h' := by
  simp only [AOp.ev] at hev
  obtain ⟨sx, xx, hargs, vs, vx⟩ := two_args hρ has
  have h0 := types0 hts
  have h1 := types1 hts
  obtain ⟨ut, hut, hum⟩ := isInt_desc hzs
  obtain ⟨zv, hzr, hzv⟩ := run_zero hz w
  have hzr2 : ∀ w : World, (Go.zeroValue el).run P w = .ok zv w := by
    intro w2
    obtain ⟨zv2, h2, _⟩ := run_zero hz w2
    unfold zeroT at hz
    obtain ⟨v0, hv0, _⟩ := Option.bind_eq_some_iff.1 hz
    obtain ⟨i, hi, hv0⟩ := Option.bind_eq_some_iff.1 hv0
    simp [Go.zeroValue, Go.typeInfo, hi, hv0] at hzr ⊢
    exact hzr
  have hzsz : zv.cells.size = k := by have := (hzv e).length; simp at this; omega
  have hbu : ∀ xs, c.args = #[sx, xx] → (Go.builtin .append c.argTypes o.type xs (c.args.map ρ)) = (do pure (.value (← Go.Builtin.append_ c.argTypes o.type #[ρ sx, ρ xx]))) := by
    intro xs hh
    rw [hh]
    have : (#[sx, xx] : Array Operand).map ρ = #[ρ sx, ρ xx] := by simp
    rw [this]
    rfl
  have fin : ∀ {r : Value} {w' : World}, (Go.Builtin.append_ c.argTypes o.type #[ρ sx, ρ xx]).run P w = .ok r w' → (Go.execOp ρ o).run P w = .ok (.value r) w' := fun hr => run_builtin ho hb hr fun xs => hbu xs hargs
  split at hev
  · rename_i a len cap ex a' n cp' ex' hp hq
    rw [hp] at vs; rw [hq] at vx
    split at hev
    · -- bytes
      rename_i hbt2
      obtain ⟨new, hnew, hev⟩ := Option.bind_eq_some_iff.1 hev
      obtain ⟨hnl, A', c', hx, hlies⟩ := bseg_sound s hnew vx (Nat.le_refl _)
      have hk1 : k = 1 := by rw [← hzk, hb1 hbt2]; rfl
      have happ : ∀ w2 : World, w2.heap = w.heap → (Go.Builtin.firstCells 1 n (.slice A' n c')).run P w2 = .ok (bcells new).toArray w2 := fun w2 hw2 => first_bytes n hnl (by
        rcases hlies with hh | ⟨cb, off, hA, hl⟩
        · exact .inl hh
        · exact .inr ⟨cb, off, hA, fun j x hj => by have := hl j x hj; simpa only [World.cell?, hw2] using this⟩)
      obtain ⟨A, c0, r, w', e', hs, hrun, hvr, hst⟩ := appBytes_sound (P := P) (zeros := false) (x := .slice A' n c') s hev vs hby hzr2 (by rw [hzsz, hk1]) happ
      refine ⟨r, w', e', .inl (fin ?_), hvr, hst⟩
      rw [hs, hx, append_unfold h0 h1 hd hk hut hum (n := n) rfl]
      rw [hnl, ← hk1] at hrun
      exact hrun
    · obtain ⟨new, hnew, hev⟩ := Option.bind_eq_some_iff.1 hev
      obtain ⟨hnl, us, A', c', hus, hx, hlies⟩ := rseg_sound s hnew vx (Nat.le_refl _)
      have happ : ∀ w2 : World, w2.heap = w.heap → (Go.Builtin.firstCells k n (.slice A' n c')).run P w2 = .ok us.toArray w2 := fun w2 hw2 => first_rows n (by rw [hus.len, hnl]) (by
        rcases hlies with hh | ⟨cb, off, hA, hl⟩
        · exact .inl hh
        · exact .inr ⟨cb, off, hA, fun j x hj => by have := hl j x hj; simpa only [World.cell?, hw2] using this⟩)
      obtain ⟨A, c0, r, w', e', hs, hrun, hvr, hst⟩ := appRows_sound (P := P) (zeros := false) (x := .slice A' n c') s hev vs hus (by omega) hby hzr2 hzsz happ
      refine ⟨r, w', e', .inl (fin ?_), hvr, hst⟩
      rw [hs, hx, append_unfold h0 h1 hd hk hut hum (n := n) rfl]
      rw [hnl] at hrun
      exact hrun
  · rename_i a len cap ex l hp hq
    rw [hp] at vs; rw [hq] at vx
    split at hev
    · rename_i hbt2
      obtain ⟨b', hb', hl⟩ := vx.s_inv
      have hk1 : k = 1 := by rw [← hzk, hb1 hbt2]; rfl
      have hsz : b'.size = l.length := by rw [← hl]; exact Array.length_toList.symm
      have happ : ∀ w2 : World, w2.heap = w.heap → (Go.Builtin.firstCells 1 l.length (.string b')).run P w2 = .ok (bcells l).toArray w2 := by
        intro w2 _
        simp only [Go.Builtin.firstCells, Go.Sem.run_pure]
        congr 1
        apply Array.toList_inj.1
        rw [← hsz]
        have : b'.extract 0 b'.size = b' := by simp
        rw [this]
        simp [bcells, ← hl]
      obtain ⟨A, c0, r, w', e', hs, hrun, hvr, hst⟩ := appBytes_sound (P := P) (zeros := false) (x := .string b') s hev vs hby hzr2 (by rw [hzsz, hk1]) happ
      refine ⟨r, w', e', .inl (fin ?_), hvr, hst⟩
      rw [hs, hb', append_unfold h0 h1 hd hk hut hum (n := l.length) (by simp [Go.Builtin.lenOf, hsz])]
      rw [← hk1] at hrun
      exact hrun
    · simp at hev
  · simp at hev

end Am

