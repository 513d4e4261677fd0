/- endpoint: a tick at which nothing is due, at any heap, as a contract. -/
import Derived.Test.YtkhnielggkcbiaaGreatDoorEnd6
import Derived.Test.YtkhnielggkcbiaaGreatDoorEnd3
namespace Am
set_option linter.all false
set_option maxRecDepth 20000
set_option maxHeartbeats 8000000
open Go (IntKind)
variable {pr : Prog}
/-- A tick at which no deadline is armed. -/
def TickZ : Rl := fun ys h v h' => ∃ e ts c A B now t, ys = [.p (some (e, 0, 0)), .i .i64 t] ∧ e < h.nx ∧ h.get e = some (.rows 23 [eRow c] false) ∧ c 12 = .i .i64 now ∧ c 15 = .p (some (ts, 0, 0)) ∧
  c 17 = .i .i64 0 ∧ now ≤ t ∧ t ≤ 1099511627776 ∧ ts < h.nx ∧ e ≠ ts ∧ h.get ts = some (.rows 12 [tRow A B] false) ∧ (∀ i, i < 6 → B i = false) ∧ c 22 = nilS ∧ (∀ i, i < 23 → Live h (c i)) ∧ v = nilS ∧ h' = h.set e (.rows 23 [eRow (upd c 12 (.i .i64 t))] false)
theorem tickZ_one : TickZ.One := by
  rintro ys h v h' w h'' ⟨e, ts, c, A, B, now, t, rfl, _, g, _, _, _, _, _, _, _, _, _, _, _, rfl, rfl⟩ ⟨e', ts', c', A', B', now', t', hy, _, g', _, _, _, _, _, _, _, _, _, _, _, rfl, rfl⟩
  simp only [List.cons.injEq, V.p.injEq, V.i.injEq, Option.some.injEq, Prod.mk.injEq, and_true, true_and] at hy
  obtain ⟨rfl, rfl⟩ := hy
  rw [g] at g'
  simp only [Option.some.injEq, Blk.rows.injEq, List.cons.injEq, and_true, true_and] at g'
  have r := eRow_inj g'
  refine ⟨rfl, ?_⟩
  have : eRow (upd c 12 (.i .i64 t)) = eRow (upd c' 12 (.i .i64 t)) := eRow_congr fun i hi => by
    unfold upd
    by_cases h12 : i = 12
    · rw [if_pos h12, if_pos h12]
    · rw [if_neg h12, if_neg h12]; exact r i hi
  rw [this]
theorem nxt0 {A : Nat → Int} {B C : Nat → Bool} (h : ∀ i, i < 6 → B i = false) : nxt A B C 5 = 0 := by
  simp only [nxt, nx1, h 1 (by omega), h 2 (by omega), h 3 (by omega), h 4 (by omega), h 5 (by omega)]
  simp
theorem tickZ_runs {kD kd kf k1 kn ks f : Nat} (xT : pr.ext f = none) (fT : pr.fn f = some (c_endpoint_End_Tick kD kd kf)) (xD : pr.ext kD = some (gDue k1)) (xf : pr.ext kf = some gFlush) (x1 : pr.ext k1 = none) (f1 : pr.fn k1 = some (c_timer_Set_Due_1 kn ks)) (xn : pr.ext kn = some (gRl NextR)) :
    ∀ ys h v h', TickZ ys h v h' → Runs pr (.fn f) ys h (fun v1 h1 => Abs h v1 h1 v h') := by
  rintro ys h v h' ⟨e, ts, c, A, B, now, t, rfl, he, ge, c12, c15, c17, h1, h2, hts, hne, gt, hB, c22, hl, rfl, rfl⟩
  refine runs_of_wpF xT fT (wpF_mono' (tick_none xD xf x1 f1 xn ge he c12 c15 c17 c22 h1 h2 hts hne gt (.inl (nxt0 hB))) ?_)
  rintro v1 g ⟨rfl, hk, hg⟩
  refine Abs.set1 hk ge he hg (fun v hv => ?_) ⟨rfl, rfl, rfl⟩
  obtain ⟨i, hi, rfl⟩ : ∃ i, i < 23 ∧ v = upd c 12 (.i .i64 t) i := by
    unfold eRow at hv
    simp only [List.mem_cons, List.not_mem_nil, or_false] at hv
    rcases hv with h | h | h | h | h | h | h | h | h | h | h | h | h | h | h | h | h | h | h | h | h | h | h
    · exact ⟨0, by omega, h⟩
    · exact ⟨1, by omega, h⟩
    · exact ⟨2, by omega, h⟩
    · exact ⟨3, by omega, h⟩
    · exact ⟨4, by omega, h⟩
    · exact ⟨5, by omega, h⟩
    · exact ⟨6, by omega, h⟩
    · exact ⟨7, by omega, h⟩
    · exact ⟨8, by omega, h⟩
    · exact ⟨9, by omega, h⟩
    · exact ⟨10, by omega, h⟩
    · exact ⟨11, by omega, h⟩
    · exact ⟨12, by omega, h⟩
    · exact ⟨13, by omega, h⟩
    · exact ⟨14, by omega, h⟩
    · exact ⟨15, by omega, h⟩
    · exact ⟨16, by omega, h⟩
    · exact ⟨17, by omega, h⟩
    · exact ⟨18, by omega, h⟩
    · exact ⟨19, by omega, h⟩
    · exact ⟨20, by omega, h⟩
    · exact ⟨21, by omega, h⟩
    · exact ⟨22, by omega, h⟩
  unfold upd
  by_cases h12 : i = 12
  · rw [if_pos h12]; exact ⟨rfl, rfl⟩
  · rw [if_neg h12]; exact hl i hi
end Am
