/- endpoint: a tick at which an end whose heap was written anew closes. -/
import Derived.Test.YtfabolagjlhdpaaGreatEnd9
import Derived.Test.YtfabolagjlhdpaaGreatEnd13
namespace Am
set_option linter.all false
set_option maxRecDepth 20000
set_option maxHeartbeats 8000000
open Go (IntKind)
variable {pr : Prog} {h : H} {ob tb : Blk} {cB : Nat → List Blk} {role : Int} {A : Nat → Int} {B : Nat → Bool} {c : Nat → V}
theorem endJ_live {j : Nat} (hl : ∀ n, (cB n).length = 13) {own : Nat → V} {T : Nat → Int} {now : Int} {b : Bool} (hown : ∀ i, i < 5 → ∃ k n, own i = .i k n) {i : Nat} (hi : i < 23) : Live (UJ j h ob tb cB role A B c) (endC role own T now h.nx b i) :=
  V.rel_mono (fun a d q => ⟨q.1, Nat.lt_of_lt_of_le q.2.1 (Nat.le_add_right _ _), q.2.2⟩) (endC_live hl hown hi)
/-- A closed end, so many numbers further. -/
def CJ (j : Nat) (base : H) (n : Nat) (c : Nat → V) : H := ⟨n + 19 + j, (base.set (n + 16) (.rows 23 [eRow c] false)).tr⟩
theorem CJ_get {j : Nat} {base : H} {n : Nat} {c : Nat → V} (b : Nat) : (CJ j base n c).get b = if b = n + 16 then some (.rows 23 [eRow c] false) else base.get b := H.get_set base (n + 16) _ b
theorem closeJ_abs {j : Nat} (hl : ∀ n, (cB n).length = 13) {c c' : Nat → V} {g base : H} {id k : Nat}
    (hb : ∀ i x, base.get i = some x → i < h.nx ∧ h.get i = some x ∧ g.get i = some x) (hc : ∀ i, i < 23 → Live (UJ j h ob tb cB role A B c) (c' i))
    (hg : g.get (h.nx + 16) = some (.rows 23 [eRow c'] false)) :
    Abs (UJ j h ob tb cB role A B c) (.sl (some (id, 0)) k k false) g (.sl (some (h.nx + 18 + j, 0)) k k false) (CJ j base h.nx c') := by
  have nx := UJ_nx (j := j) (h := h) (ob := ob) (tb := tb) (cB := cB) (role := role) (A := A) (B := B) (c := c) hl
  have hold : ∀ i x, base.get i = some x → (UJ j h ob tb cB role A B c).get i = some x := by
    intro i x hi
    obtain ⟨h1, h2, _⟩ := hb i x hi
    rw [UJ_get, UH_base hl h1]
    exact h2
  have hm : ∀ a d, (a = d ∧ a < (UJ j h ob tb cB role A B c).nx ∧ ((UJ j h ob tb cB role A B c).get a).isSome = true) → GcR (UJ j h ob tb cB role A B c) (CJ j base h.nx c') (fun _ => id) a d := by
    rintro a d ⟨rfl, h1, h2⟩
    exact .inl ⟨h1, rfl, h2⟩
  have cnx : (CJ j base h.nx c').nx = h.nx + 19 + j := rfl
  have lt : ∀ i x, (CJ j base h.nx c').get i = some x → i < (UJ j h ob tb cB role A B c).nx := by
    intro i x hx
    rw [CJ_get] at hx
    rw [nx]
    by_cases h1 : i = h.nx + 16
    · omega
    · rw [if_neg h1] at hx
      have := (hb i x hx).1; omega
  refine Abs.gc (σ := fun _ => id) (fun hlow => ⟨by rw [nx, cnx]; omega, ?_, ?_, ?_⟩) ⟨.inr ⟨by rw [nx]; omega, by rw [cnx]; omega, rfl⟩, rfl, rfl, rfl, rfl⟩
  · intro i x hi hx
    rw [CJ_get] at hx
    by_cases h1 : i = h.nx + 16
    · subst h1
      rw [if_pos rfl] at hx; cases hx
      refine ⟨by rw [UJ_get, UH_e hl]; rfl, .inr ⟨_, hg, rfl, rfl, rels_of fun w hw => ?_, trivial⟩⟩
      obtain ⟨j, hj, rfl⟩ := mem_eRow hw
      exact V.rel_mono hm (hc j hj)
    · rw [if_neg h1] at hx
      have := hold i x hx
      exact ⟨by rw [this]; rfl, .inl ⟨this, (hb i x hx).2.2⟩⟩
  · intro i x hi hx
    have := lt i x hx
    omega
  · intro i j x y hx hy hij
    have l1 := lt i x hx
    have l2 := lt j y hy
    rw [gcN, gcN, if_pos l1, if_pos l2] at hij
    exact hij
/-- Behind a tick at which nothing was due. -/
theorem noneJ_abs {j : Nat} (hlow : ∀ b x, h.get b = some x → b < h.nx) (hl : ∀ n, (cB n).length = 13) {c c' : Nat → V} {g : H} (hrel : ∀ (i : Nat) (x : Blk), (cB (h.nx + 2))[i]? = some x → x.rel (MkR (h.nx + 2) (h.nx + 2) 13) x) (hc : ∀ i, i < 23 → Live (UJ j h ob tb cB role A B c) (c' i))
    (hk : KeptBut (h.nx + 16) (UJ j h ob tb cB role A B c) g) (hg : g.get (h.nx + 16) = some (.rows 23 [eRow c'] false)) : Abs (UJ j h ob tb cB role A B c) nilS g nilS (UJ j h ob tb cB role A B c') := by
  have nx := UJ_nx (j := j) (h := h) (ob := ob) (tb := tb) (cB := cB) (role := role) (A := A) (B := B) (c := c) hl
  have hk2 : ∀ i, i < h.nx + 18 → i ≠ h.nx + 16 → g.get i = (UH h ob tb cB role A B c).get i := fun i h1 h2 => hk.2 i (by rw [nx]; omega) h2
  refine upd_abs (σ := fun _ => 0) hlow hl hl (Nat.le_refl _) ?_ ?_ ?_ ?_ ?_ hg ?_ hrel hc ⟨rfl, rfl, rfl⟩
  · rw [hk2 _ (by omega) (by omega)]; exact UH_ob hl
  · rw [hk2 _ (by omega) (by omega)]; exact UH_tb hl
  · intro i x hi
    have := hlow i x hi
    rw [hk2 _ (by omega) (by omega), UH_base hl this]; exact hi
  · intro i hi
    rw [hk2 _ (by omega) (by omega)]; exact UH_conn hl hi
  · rw [hk2 _ (by omega) (by omega)]; exact UH_t hl
  · rw [hk2 _ (by omega) (by omega)]; exact UH_drain hl
theorem shut_live {j : Nat} (hl : ∀ n, (cB n).length = 13) {own : Nat → V} {T : Nat → Int} {t : Int} {k : Nat} (hown : ∀ i, i < 5 → ∃ k n, own i = .i k n) {i : Nat} (hi : i < 23) : Live (UJ j h ob tb cB role A B c) (shutC own role T t h.nx k nilS i) := by
  unfold shutC upd
  by_cases j22 : i = 22
  · rw [if_pos j22]; exact ⟨rfl, rfl, rfl⟩
  · rw [if_neg j22]
    by_cases j17 : i = 17
    · rw [if_pos j17]; exact ⟨rfl, rfl⟩
    · rw [if_neg j17]
      by_cases j12 : i = 12
      · rw [if_pos j12]; exact ⟨rfl, rfl⟩
      · rw [if_neg j12]; exact endJ_live hl hown hi
end Am
