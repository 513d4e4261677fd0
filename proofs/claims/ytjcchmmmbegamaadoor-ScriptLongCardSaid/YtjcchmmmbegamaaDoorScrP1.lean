/- Script texts, the plain law: what is written is read again. No program in sight. -/
import Derived.Test.YtjcchmmmbegamaaDoorFieldFd
namespace Am
set_option linter.unusedVariables false
set_option linter.unusedSimpArgs false

def plainB (c : UInt8) : Bool := decide (33 ≤ c.toNat) && decide (c.toNat ≤ 126) && !decide (c = 34) && !decide (c = 92)
def hexL : List UInt8 := [48, 49, 50, 51, 52, 53, 54, 55, 56, 57, 97, 98, 99, 100, 101, 102]
def hexB (n : Nat) : UInt8 := hexL.getD n 0
def hexV (c : UInt8) : Option Nat := hexL.findIdx? (fun b => b == c)
def encB (c : UInt8) : List UInt8 := if plainB c = true then [c] else [92, hexB (c.toNat / 16), hexB (c.toNat % 16)]
def txF (l : List UInt8) : List UInt8 := 34 :: (l.flatMap encB ++ [34])
/-- A text's inside, behind what stands already. -/
def tlF : List UInt8 → List UInt8 → Option (List UInt8 × List UInt8)
  | _, [] => none
  | acc, c :: r =>
    if c = 34 then some (acc, r) else
    if plainB c = true then tlF (acc ++ [c]) r else
    if c = 92 then
      match r with
      | x :: y :: r' =>
        match hexV x, hexV y with
        | some a, some b => if plainB (UInt8.ofNat (16 * a + b)) = true then none else tlF (acc ++ [UInt8.ofNat (16 * a + b)]) r'
        | _, _ => none
      | _ => none
    else none
def cutF (s : List UInt8) : Option (List UInt8 × List UInt8) :=
  match s with
  | c :: r => if c = 34 then tlF [] r else none
  | [] => none

def tlE (acc r : List UInt8) : Option (List UInt8 × List UInt8) :=
  match r with
  | x :: y :: r' =>
    match hexV x, hexV y with
    | some a, some b => if plainB (UInt8.ofNat (16 * a + b)) = true then none else tlF (acc ++ [UInt8.ofNat (16 * a + b)]) r'
    | _, _ => none
  | _ => none
theorem tlF_nil (acc : List UInt8) : tlF acc [] = none := by unfold tlF; rfl
theorem tlF_cons (acc : List UInt8) (c : UInt8) (r : List UInt8) : tlF acc (c :: r) = if c = 34 then some (acc, r) else if plainB c = true then tlF (acc ++ [c]) r else if c = 92 then tlE acc r else none := by
  rcases r with _ | ⟨x, _ | ⟨y, r⟩⟩ <;> rfl

theorem hexV_lt {c : UInt8} {n : Nat} (h : hexV c = some n) : n < 16 := by
  unfold hexV at h
  have := (List.findIdx?_eq_some_iff_getElem.1 h).1
  exact this
theorem plain92 : plainB 92 = false := by decide
theorem tlF_len : ∀ (n : Nat) (acc s : List UInt8) (t r : List UInt8), s.length ≤ n → tlF acc s = some (t, r) → r.length < s.length ∧ t.length + r.length < acc.length + s.length
  | n, acc, [], t, r, hn, h => by rw [tlF_nil] at h; cases h
  | 0, acc, c :: s, t, r, hn, h => by simp at hn
  | n + 1, acc, c :: s, t, r, hn, h => by
    rw [tlF_cons] at h
    simp only [List.length_cons, Nat.add_le_add_iff_right] at hn ⊢
    by_cases h1 : c = 34
    · rw [if_pos h1] at h; cases h; omega
    · rw [if_neg h1] at h
      by_cases h2 : plainB c = true
      · rw [if_pos h2] at h
        have := tlF_len n _ _ _ _ hn h
        simp at this; omega
      · rw [if_neg h2] at h
        by_cases h3 : c = 92
        · rw [if_pos h3] at h
          unfold tlE at h
          split at h
          · rename_i x y r'
            split at h
            · split at h
              · cases h
              · have := tlF_len n _ _ _ _ (by simp at hn; omega) h
                simp at this ⊢; omega
            · cases h
          · cases h
        · rw [if_neg h3] at h; cases h
theorem cutF_len {s t r : List UInt8} (h : cutF s = some (t, r)) : r.length + t.length + 2 ≤ s.length := by
  unfold cutF at h
  split at h
  · split at h
    · have := tlF_len _ _ _ _ _ (Nat.le_refl _) h
      simp at this ⊢; omega
    · cases h
  · cases h

/-! ### Fields -/
def fieldT (f : Fd) : List UInt8 := txF f.n ++ 61 :: (txF f.v ++ (if f.z = true then [33] else []))
def fF (fs : List Fd) : List UInt8 :=
  match fs with
  | [] => [45]
  | f :: r => fieldT f ++ (r.map fun x => 44 :: fieldT x).flatten
def oneF (s : List UInt8) : Option (Fd × List UInt8) :=
  match cutF s with
  | some (n, c :: r) =>
    if c = 61 then
      match cutF r with
      | some (v, c2 :: r2) => if c2 = 33 then some (⟨n, v, true⟩, r2) else some (⟨n, v, false⟩, c2 :: r2)
      | some (v, []) => some (⟨n, v, false⟩, [])
      | none => none
    else none
  | _ => none
def rfF : Nat → List UInt8 → Option (List Fd)
  | 0, _ => none
  | k + 1, s =>
    match oneF s with
    | some (f, []) => some [f]
    | some (f, c :: r) => if c = 44 then (rfF k r).map (f :: ·) else none
    | none => none
def readF (s : List UInt8) : Option (List Fd) := if s = [45] then some [] else rfF (s.length + 1) s

theorem oneF_len {s r : List UInt8} {f : Fd} (h : oneF s = some (f, r)) : r.length + f.n.length + f.v.length + 5 ≤ s.length := by
  unfold oneF at h
  split at h
  · rename_i n c r1 h1
    have l1 := cutF_len h1
    simp at l1
    split at h
    · split at h
      · rename_i v c2 r2 h2
        have l2 := cutF_len h2
        simp at l2
        split at h <;> cases h <;> simp <;> omega
      · rename_i v h2
        have l2 := cutF_len h2
        simp at l2
        cases h; simp; omega
      · cases h
    · cases h
  · cases h
theorem rfF_fuel : ∀ (k j : Nat) (s : List UInt8), s.length < k → s.length < j → rfF k s = rfF j s
  | 0, _, _, h, _ => absurd h (Nat.not_lt_zero _)
  | _ + 1, 0, _, _, h => absurd h (Nat.not_lt_zero _)
  | k + 1, j + 1, s, hk, hj => by
    rw [rfF, rfF]
    split
    · rfl
    · rename_i f c r h
      have := oneF_len h
      simp at this
      rw [rfF_fuel k j r (by omega) (by omega)]
    · rfl
end Am
