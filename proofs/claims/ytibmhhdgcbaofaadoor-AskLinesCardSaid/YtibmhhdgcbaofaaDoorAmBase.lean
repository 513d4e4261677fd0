/- AmBase: values, blocks and the heap of the abstract machine. -/
import GoSem.Core.Program
namespace Am
set_option linter.unusedVariables false
set_option linter.unusedSimpArgs false
open Go (IntKind)

/-- A finite map from numbers, as a binary trie. -/
inductive Tr (α : Type) where
  | e
  | n (l : Tr α) (v : Option α) (r : Tr α)
  deriving Inhabited

namespace Tr
variable {α : Type}
def get : Tr α → Nat → Option α
  | .e, _ => none
  | .n l v r, i => if i = 0 then v else if i % 2 = 1 then l.get (i / 2) else r.get (i / 2 - 1)

def left : Tr α → Tr α
  | .e => .e
  | .n l _ _ => l
def mid : Tr α → Option α
  | .e => none
  | .n _ v _ => v
def right : Tr α → Tr α
  | .e => .e
  | .n _ _ r => r

def put : Nat → Tr α → Nat → Option α → Tr α
  | 0, t, _, _ => t
  | f + 1, t, i, x =>
    if i = 0 then .n t.left x t.right
    else if i % 2 = 1 then .n (put f t.left (i / 2) x) t.mid t.right
    else .n t.left t.mid (put f t.right (i / 2 - 1) x)

def set (t : Tr α) (i : Nat) (x : Option α) : Tr α := put (i + 1) t i x

theorem get_parts (t : Tr α) (i : Nat) : t.get i = if i = 0 then t.mid else if i % 2 = 1 then t.left.get (i / 2) else t.right.get (i / 2 - 1) := by
  cases t with
  | e => simp [get, mid, left, right]
  | n l v r => rfl

theorem get_put : ∀ (f : Nat) (t : Tr α) (i : Nat) (x : Option α) (j : Nat), i < f → (put f t i x).get j = if j = i then x else t.get j := by
  intro f
  induction f with
  | zero => intro t i x j h; omega
  | succ f ih =>
    intro t i x j h
    rw [get_parts t j]
    unfold put
    by_cases h0 : i = 0
    · subst h0
      simp only [if_true, get]
      by_cases j0 : j = 0
      · rw [if_pos j0, if_pos j0]
      · rw [if_neg j0, if_neg j0, if_neg j0]
    · rw [if_neg h0]
      by_cases h1 : i % 2 = 1
      · rw [if_pos h1]
        simp only [get]
        by_cases j0 : j = 0
        · simp [j0, Ne.symm h0]
        · rw [if_neg j0]
          by_cases j1 : j % 2 = 1
          · rw [if_pos j1, ih _ _ _ _ (by omega)]
            by_cases e : j = i
            · subst e; simp
            · rw [if_neg e, if_neg (by omega), if_neg j0, if_pos j1]
          · rw [if_neg j1, if_neg (by intro e; subst e; exact j1 h1), if_neg j0, if_neg j1]
      · rw [if_neg h1]
        simp only [get]
        by_cases j0 : j = 0
        · simp [j0, Ne.symm h0]
        · rw [if_neg j0]
          by_cases j1 : j % 2 = 1
          · rw [if_pos j1, if_neg (by intro e; subst e; exact h1 j1), if_neg j0, if_pos j1]
          · rw [if_neg j1, ih _ _ _ _ (by omega)]
            by_cases e : j = i
            · subst e; simp
            · rw [if_neg e, if_neg (by omega), if_neg j0, if_neg j1]

theorem get_set (t : Tr α) (i : Nat) (x : Option α) (j : Nat) : (t.set i x).get j = if j = i then x else t.get j := get_put _ _ _ _ _ (Nat.lt_succ_self i)
theorem get_set_same (t : Tr α) (i : Nat) (x : Option α) : (t.set i x).get i = x := by rw [get_set, if_pos rfl]
theorem get_set_ne (t : Tr α) (i : Nat) (x : Option α) (j : Nat) (h : j ≠ i) : (t.set i x).get j = t.get j := by rw [get_set, if_neg h]
theorem get_e (i : Nat) : (Tr.e : Tr α).get i = none := rfl
end Tr

/-- Who is called: a function of the program, or the yield of a loop (its block). -/
inductive Cal where
  | fn (f : Nat)
  | yl (l : Nat)
  deriving DecidableEq, Inhabited, Repr

/-- Values. A slice's 'ex': its capacity is just 'cap' (else: at least). -/
inductive V where
  | b (x : Bool)
  | i (k : IntKind) (n : Int)
  | s (x : List UInt8)
  | p (a : Option (Nat × Nat × Nat))
  | sl (a : Option (Nat × Nat)) (len cap : Nat) (ex : Bool)
  | m (r : Option Nat)
  | f (c : Cal) (caps : List V)
  | nf
  | ifc (t : Nat) (v : V)
  | nifc
  | agg (vs : List V)
  | tup (vs : List V)
  deriving Inhabited

abbrev V.un : V := .tup []

mutual
def V.beq : V → V → Bool
  | .b x, .b y => x == y
  | .i k n, .i k' n' => decide (k = k') && decide (n = n')
  | .s x, .s y => decide (x = y)
  | .p a, .p a' => decide (a = a')
  | .sl a l c e, .sl a' l' c' e' => decide (a = a') && decide (l = l') && decide (c = c') && (e == e')
  | .m r, .m r' => decide (r = r')
  | .f c vs, .f c' vs' => decide (c = c') && V.beqs vs vs'
  | .nf, .nf => true
  | .ifc t v, .ifc t' v' => decide (t = t') && V.beq v v'
  | .nifc, .nifc => true
  | .agg vs, .agg vs' => V.beqs vs vs'
  | .tup vs, .tup vs' => V.beqs vs vs'
  | _, _ => false
def V.beqs : List V → List V → Bool
  | [], [] => true
  | v :: vs, w :: ws => V.beq v w && V.beqs vs ws
  | _, _ => false
end

mutual
theorem V.beq_eq : ∀ (v w : V), V.beq v w = true → v = w
  | .b x, w, h => by cases w <;> simp_all [V.beq]
  | .i k n, w, h => by cases w <;> simp_all [V.beq]
  | .s x, w, h => by cases w <;> simp_all [V.beq]
  | .p a, w, h => by cases w <;> simp_all [V.beq]
  | .sl a l c e, w, h => by cases w <;> simp_all [V.beq]
  | .m r, w, h => by cases w <;> simp_all [V.beq]
  | .f c vs, w, h => by
    cases w <;> simp [V.beq] at h
    rw [h.1, V.beqs_eq vs _ h.2]
  | .nf, w, h => by cases w <;> simp_all [V.beq]
  | .ifc t v, w, h => by
    cases w <;> simp [V.beq] at h
    rw [h.1, V.beq_eq v _ h.2]
  | .nifc, w, h => by cases w <;> simp_all [V.beq]
  | .agg vs, w, h => by
    cases w <;> simp [V.beq] at h
    rw [V.beqs_eq vs _ h]
  | .tup vs, w, h => by
    cases w <;> simp [V.beq] at h
    rw [V.beqs_eq vs _ h]
theorem V.beqs_eq : ∀ (vs ws : List V), V.beqs vs ws = true → vs = ws
  | [], [], _ => rfl
  | [], _ :: _, h => by simp [V.beqs] at h
  | _ :: _, [], h => by simp [V.beqs] at h
  | v :: vs, w :: ws, h => by
    simp [V.beqs] at h
    rw [V.beq_eq v w h.1, V.beqs_eq vs ws h.2]
end

mutual
theorem V.beq_refl : ∀ (v : V), V.beq v v = true
  | .b x => by simp [V.beq]
  | .i k n => by simp [V.beq]
  | .s x => by simp [V.beq]
  | .p a => by simp [V.beq]
  | .sl a l c e => by simp [V.beq]
  | .m r => by simp [V.beq]
  | .f c vs => by simp [V.beq, V.beqs_refl vs]
  | .nf => rfl
  | .ifc t v => by simp [V.beq, V.beq_refl v]
  | .nifc => rfl
  | .agg vs => by simp [V.beq, V.beqs_refl vs]
  | .tup vs => by simp [V.beq, V.beqs_refl vs]
theorem V.beqs_refl : ∀ (vs : List V), V.beqs vs vs = true
  | [] => rfl
  | v :: vs => by simp [V.beqs, V.beq_refl v, V.beqs_refl vs]
end
attribute [simp] V.beq_refl V.beqs_refl

end Am
