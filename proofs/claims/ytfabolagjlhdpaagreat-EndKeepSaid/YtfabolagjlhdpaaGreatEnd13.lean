/- endpoint: an end's heap that is written anew. -/
import Derived.Test.YtfabolagjlhdpaaGreatEnd8
namespace Am
set_option linter.all false
set_option maxRecDepth 20000
set_option maxHeartbeats 8000000
open Go (IntKind)
variable {pr : Prog} {h : H} {ob tb : Blk} {role : Int}
/-- An end's heap, so many numbers further. -/
def UJ (j : Nat) (h : H) (ob tb : Blk) (cB : Nat → List Blk) (role : Int) (A : Nat → Int) (B : Nat → Bool) (c : Nat → V) : H := ⟨(UH h ob tb cB role A B c).nx + j, (UH h ob tb cB role A B c).tr⟩
theorem UJ_get {j : Nat} {cB : Nat → List Blk} {A : Nat → Int} {B : Nat → Bool} {c : Nat → V} (b : Nat) : (UJ j h ob tb cB role A B c).get b = (UH h ob tb cB role A B c).get b := rfl
theorem UJ_nx {j : Nat} {cB : Nat → List Blk} {A : Nat → Int} {B : Nat → Bool} {c : Nat → V} (hl : ∀ n, (cB n).length = 13) : (UJ j h ob tb cB role A B c).nx = h.nx + 18 + j := by
  show (UH h ob tb cB role A B c).nx + j = _
  rw [UH_nx hl]
theorem UH_conn {cB : Nat → List Blk} {A : Nat → Int} {B : Nat → Bool} {c : Nat → V} (hl : ∀ n, (cB n).length = 13) {i : Nat} (hi : i < 13) : (UH h ob tb cB role A B c).get (h.nx + 2 + i) = (cB (h.nx + 2))[i]? := by
  rw [UH_get hl, if_neg (by omega), if_neg (by omega), if_neg (by omega), pushAll_get, hl, if_pos ⟨by show h.nx + 1 + 1 ≤ _; omega, by show _ < h.nx + 1 + 1 + 13; omega⟩]
  show (cB (h.nx + 2))[h.nx + 2 + i - (h.nx + 1 + 1)]? = _
  rw [show h.nx + 2 + i - (h.nx + 1 + 1) = i from by omega]
theorem UH_base {cB : Nat → List Blk} {A : Nat → Int} {B : Nat → Bool} {c : Nat → V} (hl : ∀ n, (cB n).length = 13) {i : Nat} (hi : i < h.nx) : (UH h ob tb cB role A B c).get i = h.get i := by
  rw [UH_get hl, if_neg (by omega), if_neg (by omega), if_neg (by omega), pushAll_get, if_neg (fun q => by have q1 : h.nx + 1 + 1 ≤ i := q.1; omega), H.get_push, if_neg (fun q => by have q : i = h.nx + 1 := q; omega), H.get_push, if_neg (by omega)]
theorem UH_ob {cB : Nat → List Blk} {A : Nat → Int} {B : Nat → Bool} {c : Nat → V} (hl : ∀ n, (cB n).length = 13) : (UH h ob tb cB role A B c).get h.nx = some ob := by
  rw [UH_get hl, if_neg (by omega), if_neg (by omega), if_neg (by omega), pushAll_get, if_neg (fun q => by have q1 : h.nx + 1 + 1 ≤ h.nx := q.1; omega), H.get_push, if_neg (fun q => by have q : h.nx = h.nx + 1 := q; omega), H.get_push, if_pos rfl]
theorem UH_tb {cB : Nat → List Blk} {A : Nat → Int} {B : Nat → Bool} {c : Nat → V} (hl : ∀ n, (cB n).length = 13) : (UH h ob tb cB role A B c).get (h.nx + 1) = some tb := by
  rw [UH_get hl, if_neg (by omega), if_neg (by omega), if_neg (by omega), pushAll_get, if_neg (fun q => by have q1 : h.nx + 1 + 1 ≤ h.nx + 1 := q.1; omega), H.get_push]; exact if_pos rfl
theorem UH_drain {cB : Nat → List Blk} {A : Nat → Int} {B : Nat → Bool} {c : Nat → V} (hl : ∀ n, (cB n).length = 13) : (UH h ob tb cB role A B c).get (h.nx + 17) = some (.rows 2 [[.i .i64 role, .i .i64 0]] false) := by
  rw [UH_get hl, if_pos rfl]
/-- The heap behind a call, told as an end's: 'hrel': the connection's new blocks name its own blocks alone. -/
theorem upd_abs {j j' : Nat} {cB cB' : Nat → List Blk} {A A' : Nat → Int} {B B' : Nat → Bool} {c c' : Nat → V} {g : H} {v v1 : V} {σ : Nat → Nat} (hlow : ∀ b x, h.get b = some x → b < h.nx) (hl : ∀ n, (cB n).length = 13) (hl' : ∀ n, (cB' n).length = 13) (hj : j ≤ j')
    (k0 : g.get h.nx = some ob) (k1 : g.get (h.nx + 1) = some tb) (kb : ∀ i x, h.get i = some x → g.get i = some x) (kc : ∀ i, i < 13 → g.get (h.nx + 2 + i) = (cB' (h.nx + 2))[i]?)
    (kt : g.get (h.nx + 15) = some (.rows 12 [tRow A' B'] false)) (ke : g.get (h.nx + 16) = some (.rows 23 [eRow c'] false)) (kd : g.get (h.nx + 17) = some (.rows 2 [[.i .i64 role, .i .i64 0]] false))
    (hrel : ∀ (i : Nat) (x : Blk), (cB' (h.nx + 2))[i]? = some x → x.rel (MkR (h.nx + 2) (h.nx + 2) 13) x) (hc : ∀ i, i < 23 → Live (UJ j h ob tb cB role A B c) (c' i)) (hv : v.rel (GcR (UJ j h ob tb cB role A B c) (UJ j' h ob tb cB' role A' B' c') σ) v1) :
    Abs (UJ j h ob tb cB role A B c) v1 g v (UJ j' h ob tb cB' role A' B' c') := by
  have nx := UJ_nx (j := j) (h := h) (ob := ob) (tb := tb) (role := role) (A := A) (B := B) (c := c) hl
  have nx' := UJ_nx (j := j') (h := h) (ob := ob) (tb := tb) (role := role) (A := A') (B := B') (c := c') hl'
  have hm : ∀ a d, (a = d ∧ a < (UJ j h ob tb cB role A B c).nx ∧ ((UJ j h ob tb cB role A B c).get a).isSome = true) → GcR (UJ j h ob tb cB role A B c) (UJ j' h ob tb cB' role A' B' c') σ a d := by
    rintro a d ⟨rfl, h1, h2⟩
    exact .inl ⟨h1, rfl, h2⟩
  have hmk : ∀ a d, MkR (h.nx + 2) (h.nx + 2) 13 a d → GcR (UJ j h ob tb cB role A B c) (UJ j' h ob tb cB' role A' B' c') σ a d := by
    rintro a d ⟨i, hi, rfl, rfl⟩
    exact .inl ⟨by rw [nx]; omega, rfl, by rw [UJ_get]; exact UH_some hl hi⟩
  have at1 : ∀ b x, (UJ j' h ob tb cB' role A' B' c').get b = some x → b < h.nx + 18 ∧ ((UJ j h ob tb cB role A B c).get b).isSome = true ∧ (((UJ j h ob tb cB role A B c).get b = some x ∧ g.get b = some x) ∨ (g.get b = some x ∧ x.rel (GcR (UJ j h ob tb cB role A B c) (UJ j' h ob tb cB' role A' B' c') σ) x)) := by
    intro b x hb
    rw [UJ_get] at hb
    rw [UJ_get]
    by_cases b0 : b < h.nx
    · rw [UH_base hl' b0] at hb
      rw [UH_base hl b0]
      exact ⟨by omega, by rw [hb]; rfl, .inl ⟨hb, kb b x hb⟩⟩
    by_cases b1 : b = h.nx
    · subst b1
      rw [UH_ob hl'] at hb; cases hb
      rw [UH_ob hl]
      exact ⟨by omega, rfl, .inl ⟨rfl, k0⟩⟩
    by_cases b2 : b = h.nx + 1
    · subst b2
      rw [UH_tb hl'] at hb; cases hb
      rw [UH_tb hl]
      exact ⟨by omega, rfl, .inl ⟨rfl, k1⟩⟩
    by_cases b3 : b < h.nx + 15
    · obtain ⟨i, hi, rfl⟩ : ∃ i, i < 13 ∧ b = h.nx + 2 + i := ⟨b - (h.nx + 2), by omega, by omega⟩
      rw [UH_conn hl' hi] at hb
      exact ⟨by omega, UH_some hl hi, .inr ⟨(kc i hi).trans hb, Blk.rel_mono hmk (hrel i x hb)⟩⟩
    by_cases b4 : b = h.nx + 15
    · subst b4
      rw [UH_t hl'] at hb; cases hb
      rw [UH_t hl]
      exact ⟨by omega, rfl, .inr ⟨kt, rfl, rfl, ⟨⟨rfl, rfl⟩, rfl, ⟨rfl, rfl⟩, rfl, ⟨rfl, rfl⟩, rfl, ⟨rfl, rfl⟩, rfl, ⟨rfl, rfl⟩, rfl, ⟨rfl, rfl⟩, rfl, trivial⟩, trivial⟩⟩
    by_cases b5 : b = h.nx + 16
    · subst b5
      rw [UH_e hl'] at hb; cases hb
      rw [UH_e hl]
      exact ⟨by omega, rfl, .inr ⟨ke, rfl, rfl, rels_of fun w hw => by obtain ⟨i, hi, rfl⟩ := mem_eRow hw; exact V.rel_mono hm (hc i hi), trivial⟩⟩
    by_cases b6 : b = h.nx + 17
    · subst b6
      rw [UH_drain hl'] at hb; cases hb
      rw [UH_drain hl]
      exact ⟨by omega, rfl, .inl ⟨rfl, kd⟩⟩
    · exfalso
      rw [UH_get hl', if_neg (by omega), if_neg (by omega), if_neg (by omega), pushAll_get, hl', if_neg (fun q => by have q1 : b < h.nx + 1 + 1 + 13 := q.2; omega), H.get_push, if_neg (fun q => by have q : b = h.nx + 1 := q; omega), H.get_push, if_neg (by omega)] at hb
      have := hlow b x hb
      omega
  refine Abs.gc (σ := σ) (fun _ => ⟨by rw [nx, nx']; omega, ?_, ?_, ?_⟩) hv
  · intro b x _ hx
    obtain ⟨_, q1, q2 | q2⟩ := at1 b x hx
    · exact ⟨q1, .inl q2⟩
    · exact ⟨q1, .inr ⟨x, q2.1, q2.2⟩⟩
  · intro b x hb hx
    have := (at1 b x hx).1
    rw [nx] at hb; omega
  · intro b d x y hx hy he
    have hb := (at1 b x hx).1
    have hd := (at1 d y hy).1
    rw [gcN, gcN, if_pos (by rw [nx]; omega), if_pos (by rw [nx]; omega)] at he
    exact he
end Am
