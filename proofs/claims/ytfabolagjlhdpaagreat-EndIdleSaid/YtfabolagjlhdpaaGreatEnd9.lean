/- endpoint: a tick, as a contract. -/
import Derived.Test.YtfabolagjlhdpaaGreatEnd8
namespace Am
set_option linter.all false
set_option maxRecDepth 20000
set_option maxHeartbeats 8000000
open Go (IntKind)
variable {pr : Prog}
/-- Why it closes, how many events that are, where they lie: by the deadline. -/
def whyOf : Nat → Int
  | 1 => 2
  | 2 => 4
  | _ => 5
def evOf : Nat → Nat
  | 1 => 2
  | _ => 1
def atOf : Nat → Nat
  | 1 => 70
  | 2 => 63
  | _ => 30
abbrev endH (own : Nat → V) (cB : Int → Nat → List Blk) (base : H) (x1 ob tb : Blk) (role : Int) (A : Nat → Int) (B : Nat → Bool) (T : Nat → Int) (now : Int) : H := UH (base.push x1) ob tb (cB role) role A B (endC role own T now (base.push x1).nx true)
def shutC (own : Nat → V) (role : Int) (T : Nat → Int) (t : Int) (n k : Nat) (s : V) : Nat → V := upd (upd (upd (endC role own T t n true) 12 (.i .i64 t)) 17 (.i .i64 (whyOf k))) 22 s
def TickO (own : Nat → V) (cB : Int → Nat → List Blk) (Base : H → Prop) (base : H) (x1 ob tb : Blk) (role : Int) (A : Nat → Int) (B : Nat → Bool) (T : Nat → Int) (now t : Int) (v : V) (h' : H) : Prop :=
  now ≤ t ∧ t ≤ 1099511627776 ∧
    ((nxt A B noC 5 = 0 ∨ t < A (nxt A B noC 5)) ∧ v = nilS ∧ h' = endH own cB base x1 ob tb role A B T t ∨
     ∃ k, nxt A B noC 5 = k ∧ (k = 1 ∨ k = 2 ∨ k = 4) ∧ A k ≤ t ∧ v = .sl (some (base.nx + 19, 0)) (evOf k) (evOf k) false ∧ h' = CH base (base.nx + 1) (shutC own role T t (base.nx + 1) k nilS))
def TickE (own : Nat → V) (cB : Int → Nat → List Blk) (Base : H → Prop) : Rl := fun ys h v h' =>
  (∃ e c now t why, ys = [.p (some (e, 0, 0)), .i .i64 t] ∧ e < h.nx ∧ h.get e = some (.rows 23 [eRow c] false) ∧ c 12 = .i .i64 now ∧ c 17 = .i .i64 why ∧ (why ≠ 0 ∨ t < now ∨ 1099511627776 < t) ∧ v = nilS ∧ h = h') ∨
  (∃ base x1 ob tb role A B T now t, Base base ∧ (role = 1 ∨ role = 2) ∧ ys = [.p (some (base.nx + 17, 0, 0)), .i .i64 t] ∧ h = endH own cB base x1 ob tb role A B T now ∧ TickO own cB Base base x1 ob tb role A B T now t v h')
theorem tick_runs {kD kd kf k1 kn ks f : Nat} {own : Nat → V} {cB : Int → Nat → List Blk} {Base : H → Prop} (xT : pr.ext f = none) (fT : pr.fn f = some (c_endpoint_End_Tick kD kd kf)) (xD : pr.ext kD = some (gDue k1)) (xf : pr.ext kf = some gFlush) (x1 : pr.ext k1 = none) (f1 : pr.fn k1 = some (c_timer_Set_Due_1 kn ks)) (xn : pr.ext kn = some (gRl NextR)) (xs : pr.ext ks = some gStop)
    (hown : ∀ i, i < 5 → ∃ k n, own i = .i k n) (hl : ∀ r n, (cB r n).length = 13) (hBase : ∀ b, Base b → ∀ i x, b.get i = some x → i < b.nx)
    (hD : ∀ (base : H) (x1 ob tb : Blk) (role : Int) (A : Nat → Int) (B : Nat → Bool) (T : Nat → Int) (now t : Int) (k : Nat) (LS : LoopSt), Base base → (role = 1 ∨ role = 2) → (k = 1 ∨ k = 2 ∨ k = 4) →
      Runs pr (.fn kd) [.p (some (base.nx + 17, 0, 0)), .i .i64 (k : Nat)] (dueH (endH own cB base x1 ob tb role A B T now) (base.nx + 17) (base.nx + 16) (endC role own T now (base.nx + 1) true) A B t k LS)
        (fun v g => v = .un ∧ g.get (base.nx + 17) = some (.rows 23 [eRow (shutC own role T t (base.nx + 1) k (.sl (some (base.nx + atOf k, 0)) (evOf k) (evOf k) false))] false) ∧ g.get (base.nx + 19) = some (.rows 1 [[.p (some (base.nx + 17, 0, 0))]] false) ∧ g.get (base.nx + 22) = some (.loop { LS with st := .busy }) ∧ base.nx + 22 < g.nx ∧ ∀ i x, base.get i = some x → g.get i = some x)) :
    ∀ ys h v h', TickE own cB Base ys h v h' → Runs pr (.fn f) ys h (fun v1 h1 => Abs h v1 h1 v h') := by
  rintro ys h v h' (⟨e, c, now, t, why, rfl, he, ge, c12, c17, hw, rfl, rfl⟩ | ⟨base, y1, ob, tb, role, A, B, T, now, t, hb, hr, rfl, rfl, ht1, ht2, (⟨hq, rfl, rfl⟩ | ⟨k, hk, hk3, hA, rfl, rfl⟩)⟩)
  · refine runs_of_wpF xT fT (wpF_mono' (tick_ignore ge he c12 c17 hw) ?_)
    rintro v1 g ⟨rfl, hk⟩
    exact Abs.out rfl rfl hk
  · have unx : (endH own cB base y1 ob tb role A B T now).nx = base.nx + 19 := UH_nx (hl role)
    refine runs_of_wpF xT fT (wpF_mono' (tick_none (e := base.nx + 17) (now := now) (ts := base.nx + 16) xD xf x1 f1 xn (UH_e (hl role)) (by rw [unx]; omega) rfl rfl rfl rfl ht1 ht2 (by rw [unx]; omega) (by omega) (UH_t (hl role)) hq) ?_)
    rintro v1 g ⟨rfl, hk, hg⟩
    exact none_abs (hl role) hown hk hg
  · have unx : (endH own cB base y1 ob tb role A B T now).nx = base.nx + 19 := UH_nx (hl role)
    have hwn : whyOf k ≠ 0 := by rcases hk3 with rfl | rfl | rfl <;> decide
    have k0 : nxt A B noC 5 ≠ 0 := by rw [hk]; rcases hk3 with rfl | rfl | rfl <;> decide
    refine runs_of_wpF xT fT (wpF_mono' (tick_close (e := base.nx + 17) (now := now) (ts := base.nx + 16) (why := whyOf k) (c' := shutC own role T t (base.nx + 1) k (.sl (some (base.nx + atOf k, 0)) (evOf k) (evOf k) false)) (Kp := fun i x => base.get i = some x) xD xf x1 f1 xn (UH_e (hl role)) (by rw [unx]; omega) rfl rfl rfl rfl ht1 ht2 (by rw [unx]; omega) (by omega) (UH_t (hl role)) xs k0 (by rw [hk]; exact hA) hwn (fun i x hi => ⟨by rw [unx]; have := hBase _ hb i x hi; omega, by have := hBase _ hb i x hi; omega⟩) (fun LS => ?_) rfl) ?_)
    · rw [hk, unx]
      exact hD base y1 ob tb role A B T now t k LS hb hr hk3
    · rintro v1 g ⟨rfl, _, hg, hkp⟩
      exact close_abs (hl role) hown (h := base.push y1) (g := g) (base := base) (id := base.nx + atOf k) (k := evOf k) (t := t) (why := whyOf k) (fun i x hi => ⟨by have := hBase _ hb i x hi; show i < base.nx + 1; omega, by rw [H.get_push, if_neg (by have := hBase _ hb i x hi; omega)]; exact hi, hkp i x hi⟩) hg
end Am
