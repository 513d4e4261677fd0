/- The law EndKeep at its seat: a tick, as a contract. -/
import Derived.Test.YtfabolagjlhdpaaGreatEndK6
import Derived.Test.YtfabolagjlhdpaaGreatEnd11
import Derived.Test.YtfabolagjlhdpaaGreatEnd14
namespace Go.Proofs.YtfabolagjlhdpaaGreat.EndK
open Am
set_option linter.all false
set_option maxRecDepth 100000
set_option maxHeartbeats 8000000
def tk4 (A : Nat → Int) (T : Nat → Int) (t : Int) : Nat → Int := setF (fun i => if i = 3 then 0 else A i) 4 (min (t + T 4) 1099511627776)
def tb4 (B : Nat → Bool) : Nat → Bool := setF (fun i => if i = 3 then false else B i) 4 true
def cX (p : Bool) : Int → Nat → List Blk := cond p cP cT
theorem cX_len (p : Bool) (r : Int) (n : Nat) : (cX p r n).length = 13 := by cases p; exact cT_len r n; exact cP_len r n
theorem relX (p : Bool) (r : Int) (m i : Nat) (x : Blk) (hx : (cX p r m)[i]? = some x) : x.rel (MkR m m 13) x := by cases p; exact relT r m i x hx; exact relP r m i x hx
def TickK : Rl := fun ys h v h' =>
  (∃ e c now t why, ys = [.p (some (e, 0, 0)), .i .i64 t] ∧ e < h.nx ∧ h.get e = some (.rows 23 [eRow c] false) ∧ c 12 = .i .i64 now ∧ c 17 = .i .i64 why ∧ (why ≠ 0 ∨ t < now ∨ 1099511627776 < t) ∧ v = nilS ∧ h = h') ∨
  (∃ p base z ob tb role A B T now t, base = h0.push z ∧ (role = 1 ∨ role = 2) ∧ ys = [.p (some (base.nx + 16, 0, 0)), .i .i64 t] ∧ h = jH (cX p) base ob tb role A B T now ∧ now ≤ t ∧ 0 ≤ t ∧ t ≤ 1099511627776 ∧ 0 < T 4 ∧ T 4 ≤ 1099511627776 ∧
    ((nxt A B noC 5 = 0 ∨ t < A (nxt A B noC 5)) ∧ v = nilS ∧ h' = jH (cX p) base ob tb role A B T t ∨
     p = false ∧ nxt A B noC 5 = 3 ∧ A 3 ≤ t ∧ (nxt (tk4 A T t) (tb4 B) (fun i => decide (i = 3)) 5 = 0 ∨ t < tk4 A T t (nxt (tk4 A T t) (tb4 B) (fun i => decide (i = 3)) 5)) ∧ v = nilS ∧ h' = jH cP base ob tb role (tk4 A T t) (tb4 B) T t ∨
     p = true ∧ nxt A B noC 5 = 4 ∧ A 4 ≤ t ∧ v = .sl (some (base.nx + 19, 0)) 1 1 false ∧ h' = CJ 1 base base.nx (shutC own0 role T t base.nx 4 nilS)))
/-- What the ping keeps. -/
theorem sees_j {base : H} {ob tb : Blk} {role : Int} {A A' : Nat → Int} {B B' : Nat → Bool} {T : Nat → Int} {t : Int} {c : Nat → V} {z : Option Blk} : ∀ j, j < 18 → j ≠ 15 → j ≠ 16 →
    (sees ob tb (cP role (base.nx + 2)) role A B c z)[j]? = some ((jH cP base ob tb role A' B' T t).get (base.nx + j)) := by
  intro j hj h16 h17
  have hl := cP_len role
  by_cases j1 : j = 0
  · subst j1
    show some (some ob) = some ((UJ 1 base ob tb (cP role) role A' B' _).get base.nx)
    rw [UJ_get, UH_ob hl]
  by_cases j2 : j = 1
  · subst j2
    show some (some tb) = some ((UJ 1 base ob tb (cP role) role A' B' _).get (base.nx + 1))
    rw [UJ_get, UH_tb hl]
  by_cases j3 : j < 15
  · obtain ⟨k, hk, rfl⟩ : ∃ k, k < 13 ∧ j = 2 + k := ⟨j - 2, by omega, by omega⟩
    rw [sees_conn (cP_len role (base.nx + 2)) hk, show base.nx + (2 + k) = base.nx + 2 + k from by omega]
    rw [UJ_get, UH_conn hl hk]
  · obtain rfl : j = 17 := by omega
    rw [(sees_end (cP_len role (base.nx + 2))).2.2]
    rw [UJ_get, UH_drain hl]
end Go.Proofs.YtfabolagjlhdpaaGreat.EndK
