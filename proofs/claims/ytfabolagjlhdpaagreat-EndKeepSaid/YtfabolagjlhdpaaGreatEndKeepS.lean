/- The law EndKeep at its seat: how it stands between ticks. -/
import Derived.Test.YtfabolagjlhdpaaGreatEndK9
import Derived.Test.YtfabolagjlhdpaaGreatAmAll2
namespace Go.Proofs.YtfabolagjlhdpaaGreat.EndK
open Go (IntKind)
open Am
set_option linter.all false
set_option maxRecDepth 100000
set_option maxHeartbeats 8000000
theorem jH_e {p : Bool} {base ob tb role A B T now} : (jH (cX p) base ob tb role A B T now).get (base.nx + 16) = some (.rows 23 [eRow (endC role own0 T now base.nx true)] false) := (UJ_get _).trans (UH_e (cX_len p role))
theorem jH_t {p : Bool} {base ob tb role A B T now} : (jH (cX p) base ob tb role A B T now).get (base.nx + 15) = some (.rows 12 [tRow A B] false) := (UJ_get _).trans (UH_t (cX_len p role))
theorem jH_low {p : Bool} {base ob tb role A B T now} {i : Nat} (hi : i < base.nx) : (jH (cX p) base ob tb role A B T now).get i = base.get i := (UJ_get _).trans (UH_base (cX_len p role) hi)
theorem jH_c {p : Bool} {base ob tb role A B T now} : (jH (cX p) base ob tb role A B T now).get (base.nx + 8) = (cX p role (base.nx + 2))[6]? := (UJ_get _).trans (UH_conn (i := 6) (cX_len p role) (by omega))
theorem row_at {h : H} {e : Nat} {c d : Nat → V} (h1 : h.get e = some (.rows 23 [eRow c] false)) (h2 : h.get e = some (.rows 23 [eRow d] false)) : ∀ i, i < 23 → c i = d i := by
  rw [h1] at h2
  simp only [Option.some.injEq, Blk.rows.injEq, List.cons.injEq, and_true, true_and] at h2
  exact eRow_inj h2
theorem cX_inj {p q : Bool} {role : Int} {n : Nat} (h : (cX p role n)[6]? = (cX q role n)[6]?) : p = q := by
  have key : (cT role n)[6]? = (cP role n)[6]? → False := by
    intro h
    unfold cT cP at h
    split at h
    · injection h with h; injection h with _ h _; injection h with h _; simp at h
    · injection h with h; injection h with _ h _; injection h with h _; simp at h
  cases p with
  | false => cases q with
    | false => rfl
    | true => exact (key h).elim
  | true => cases q with
    | false => exact (key h.symm).elim
    | true => rfl
theorem inv_jH {p p2 : Bool} {base ob tb role A B T now ob2 tb2 role2 A2 B2 T2 now2} (h : jH (cX p) base ob tb role A B T now = jH (cX p2) base ob2 tb2 role2 A2 B2 T2 now2) : role = role2 ∧ now = now2 ∧ T 4 = T2 4 ∧ (∀ i, i < 6 → A i = A2 i ∧ B i = B2 i) ∧ p = p2 := by
  have e1 := jH_e (p := p) (base := base) (ob := ob) (tb := tb) (role := role) (A := A) (B := B) (T := T) (now := now)
  have t1 := jH_t (p := p) (base := base) (ob := ob) (tb := tb) (role := role) (A := A) (B := B) (T := T) (now := now)
  have c1 := jH_c (p := p) (base := base) (ob := ob) (tb := tb) (role := role) (A := A) (B := B) (T := T) (now := now)
  rw [h] at e1 t1 c1
  have r := row_at e1 jH_e
  have q0 : V.i .i64 role = V.i .i64 role2 := r 0 (by omega)
  have q12 : V.i .i64 now = V.i .i64 now2 := r 12 (by omega)
  have q10 : V.i .i64 (T 4) = V.i .i64 (T2 4) := r 10 (by omega)
  rw [jH_t] at t1
  simp only [Option.some.injEq, Blk.rows.injEq, List.cons.injEq, and_true, true_and] at t1
  have hAA := tRow_inj t1
  cases q0; cases q12
  injection q10 with _ q10
  rw [jH_c] at c1
  exact ⟨rfl, rfl, q10, fun i hi => ⟨(hAA i hi).1.symm, (hAA i hi).2.symm⟩, cX_inj c1.symm⟩
/-- How it stands between ticks. -/
def St (base : H) (z : Blk) (role a b asked now : Int) (h : H) : Prop :=
  ∃ p ob tb A B T, h = jH (cX p) base ob tb role A B T now ∧ T 4 = b ∧
    ((p = false ∧ asked = -1 ∧ now < a ∧ ∀ i, i < 6 → (A i = if i = 3 then a else 0) ∧ B i = decide (i = 3)) ∨
     (p = true ∧ 0 ≤ asked ∧ asked ≤ now ∧ now < asked + b ∧ ∀ i, i < 6 → (i = 4 → A i = asked + b) ∧ B i = decide (i = 4)))
theorem nxt3 {A : Nat → Int} {B : Nat → Bool} (h : ∀ i, i < 6 → B i = decide (i = 3)) : nxt A B noC 5 = 3 := by
  simp only [nxt, nx1, h 1 (by omega), h 2 (by omega), h 3 (by omega), h 4 (by omega), h 5 (by omega), noC]
  simp
theorem nxt4 {A : Nat → Int} {B : Nat → Bool} {C : Nat → Bool} (hC : C 4 = false) (h : ∀ i, i < 6 → B i = decide (i = 4)) : nxt A B C 5 = 4 := by
  simp only [nxt, nx1, h 1 (by omega), h 2 (by omega), h 3 (by omega), h 4 (by omega), h 5 (by omega), hC]
  simp
theorem gRl_some {R : Rl} {ys : List V} {h h' : H} {v : V} (hr : R ys h v h') : ∃ v2 h2, gRl R ys h = some (v2, h2) ∧ R ys h v2 h2 := by
  unfold gRl
  have hx : ∃ p : V × H, R ys h p.1 p.2 := ⟨(v, h'), hr⟩
  rw [dif_pos hx]
  exact ⟨_, _, rfl, Classical.choose_spec hx⟩
theorem tb4_4 {B : Nat → Bool} (h : ∀ i, i < 6 → B i = decide (i = 3)) : ∀ i, i < 6 → tb4 B i = decide (i = 4) := by
  intro i hi
  unfold tb4 setF
  by_cases h4 : i = 4
  · rw [if_pos h4]; simp [h4]
  · rw [if_neg h4]
    show (if i = 3 then false else B i) = _
    by_cases h3 : i = 3
    · rw [if_pos h3]; simp [h3]
    · rw [if_neg h3, h i hi]; simp [h3, h4]
theorem tick_st {base : H} {z : Blk} (hz : base = h0.push z) {role a b asked now x : Int} {h : H} (hr : role = 1 ∨ role = 2) (ha : 1 ≤ a) (ha2 : a ≤ 1000) (hb : 1 ≤ b) (hb2 : b ≤ 1000) (hn : 0 ≤ now) (hx : now ≤ x) (hx2 : x ≤ 1073741824) (hS : St base z role a b asked now h) :
    ∃ v' h', gRl TickK [.p (some (base.nx + 16, 0, 0)), .i .i64 x] h = some (v', h') ∧
      ((asked = -1 ∧ x < a ∧ St base z role a b (-1) x h') ∨ (asked = -1 ∧ a ≤ x ∧ St base z role a b x x h') ∨ (0 ≤ asked ∧ x < asked + b ∧ St base z role a b asked x h') ∨ (0 ≤ asked ∧ asked + b ≤ x ∧ ∃ c, h'.get (base.nx + 16) = some (.rows 23 [eRow c] false) ∧ c 17 = .i .i64 5)) := by
  obtain ⟨p, ob, tb, A, B, T, rfl, hT, hS⟩ := hS
  have ex : ∃ v h', TickK [.p (some (base.nx + 16, 0, 0)), .i .i64 x] (jH (cX p) base ob tb role A B T now) v h' := by
    rcases hS with ⟨rfl, rfl, hlt, hAB⟩ | ⟨rfl, h0', hle, hlt, hAB⟩
    · have n3 : nxt A B noC 5 = 3 := nxt3 (A := A) fun i hi => (hAB i hi).2
      have A3 : A 3 = a := (hAB 3 (by omega)).1
      by_cases hxa : x < a
      · exact ⟨_, _, .inr ⟨false, base, z, ob, tb, role, A, B, T, now, x, hz, hr, rfl, rfl, hx, by omega, by omega, by omega, by omega, .inl ⟨.inr (by rw [n3, A3]; exact hxa), rfl, rfl⟩⟩⟩
      · refine ⟨_, _, .inr ⟨false, base, z, ob, tb, role, A, B, T, now, x, hz, hr, rfl, rfl, hx, by omega, by omega, by omega, by omega, .inr (.inl ⟨rfl, n3, by rw [A3]; omega, .inr ?_, rfl, rfl⟩)⟩⟩
        rw [nxt4 (A := tk4 A T x) (by rfl) (tb4_4 fun i hi => (hAB i hi).2)]
        unfold tk4 setF
        rw [if_pos rfl]; omega
    · have n4 : nxt A B noC 5 = 4 := nxt4 (A := A) rfl fun i hi => (hAB i hi).2
      have A4 : A 4 = asked + b := (hAB 4 (by omega)).1 rfl
      by_cases hxa : x < asked + b
      · exact ⟨_, _, .inr ⟨true, base, z, ob, tb, role, A, B, T, now, x, hz, hr, rfl, rfl, hx, by omega, by omega, by omega, by omega, .inl ⟨.inr (by rw [n4, A4]; exact hxa), rfl, rfl⟩⟩⟩
      · exact ⟨_, _, .inr ⟨true, base, z, ob, tb, role, A, B, T, now, x, hz, hr, rfl, rfl, hx, by omega, by omega, by omega, by omega, .inr (.inr ⟨rfl, n4, by rw [A4]; omega, rfl, rfl⟩)⟩⟩
  obtain ⟨v0, h0', hR0⟩ := ex
  obtain ⟨v', h', hg, hR⟩ := gRl_some hR0
  refine ⟨v', h', hg, ?_⟩
  clear hR0 hg
  rcases hR with ⟨e, c, n0, t, why, hy, he, ge, c12, c17, hw, _, rfl⟩ | ⟨p2, base2, z2, ob2, tb2, r2, A2, B2, T2, now2, t, hz2, hr2, hy, hEq, o1, o2, o3, o4, o5, hO⟩
  · exfalso
    simp only [List.cons.injEq, V.p.injEq, V.i.injEq, Option.some.injEq, Prod.mk.injEq, true_and, and_true] at hy
    obtain ⟨rfl, rfl⟩ := hy
    have r := row_at ge jH_e
    have q12 : V.i .i64 n0 = V.i .i64 now := c12.symm.trans (r 12 (by omega))
    have q17 : V.i .i64 why = V.i .i64 0 := c17.symm.trans (r 17 (by omega))
    cases q12; cases q17
    omega
  · simp only [List.cons.injEq, V.p.injEq, V.i.injEq, Option.some.injEq, Prod.mk.injEq, true_and, and_true] at hy
    obtain ⟨_, rfl⟩ := hy
    have hbb : base2 = base := by
      have g1 : (jH (cX p) base ob tb role A B T now).get 4096 = base.get 4096 := jH_low (by rw [hz]; show 4096 < 4096 + 1; omega)
      have g2 : (jH (cX p2) base2 ob2 tb2 r2 A2 B2 T2 now2).get 4096 = base2.get 4096 := jH_low (by rw [hz2]; show 4096 < 4096 + 1; omega)
      rw [hEq, g2, hz, hz2, H.get_push, H.get_push, if_pos (show 4096 = h0.nx from rfl), if_pos (show 4096 = h0.nx from rfl)] at g1
      rw [hz, hz2, Option.some.inj g1]
    subst hbb
    obtain ⟨rfl, rfl, hT4, hAA, rfl⟩ := inv_jH hEq
    have hB2 : ∀ i, i < 6 → B2 i = B i := fun i hi => (hAA i hi).2.symm
    rcases hS with ⟨rfl, rfl, hlt, hAB⟩ | ⟨rfl, h0', hle, hlt, hAB⟩
    · have n3 : nxt A2 B2 noC 5 = 3 := nxt3 (A := A2) fun i hi => (hB2 i hi).trans (hAB i hi).2
      have A3 : A2 3 = a := (hAA 3 (by omega)).1.symm.trans (hAB 3 (by omega)).1
      have hAB2 : ∀ i, i < 6 → (A2 i = if i = 3 then a else 0) ∧ B2 i = decide (i = 3) := fun i hi => ⟨(hAA i hi).1.symm.trans (hAB i hi).1, (hB2 i hi).trans (hAB i hi).2⟩
      rcases hO with ⟨hd, _, rfl⟩ | ⟨_, _, hA, _, _, rfl⟩ | ⟨hp, _⟩
      · rw [n3, A3] at hd
        have hxa : x < a := by rcases hd with hd | hd; omega; exact hd
        exact .inl ⟨rfl, hxa, false, ob2, tb2, A2, B2, T2, rfl, by omega, .inl ⟨rfl, rfl, hxa, hAB2⟩⟩
      · rw [A3] at hA
        refine .inr (.inl ⟨rfl, hA, true, ob2, tb2, tk4 A2 T2 x, tb4 B2, T2, rfl, by omega, .inr ⟨rfl, by omega, by omega, by omega, fun i hi => ⟨?_, tb4_4 (fun i hi => (hAB2 i hi).2) i hi⟩⟩⟩)
        rintro rfl
        unfold tk4 setF
        rw [if_pos rfl]; omega
      · cases hp
    · have n4 : nxt A2 B2 noC 5 = 4 := nxt4 (A := A2) rfl fun i hi => (hB2 i hi).trans (hAB i hi).2
      have A4 : A2 4 = asked + b := (hAA 4 (by omega)).1.symm.trans ((hAB 4 (by omega)).1 rfl)
      have hAB2 : ∀ i, i < 6 → (i = 4 → A2 i = asked + b) ∧ B2 i = decide (i = 4) := fun i hi => ⟨fun h4 => (hAA i hi).1.symm.trans ((hAB i hi).1 h4), (hB2 i hi).trans (hAB i hi).2⟩
      rcases hO with ⟨hd, _, rfl⟩ | ⟨hp, _⟩ | ⟨_, _, hA, _, rfl⟩
      · rw [n4, A4] at hd
        have hxa : x < asked + b := by rcases hd with hd | hd; omega; exact hd
        exact .inr (.inr (.inl ⟨h0', hxa, true, ob2, tb2, A2, B2, T2, rfl, by omega, .inr ⟨rfl, h0', by omega, hxa, hAB2⟩⟩))
      · cases hp
      · rw [A4] at hA
        exact .inr (.inr (.inr ⟨h0', hA, _, by rw [CJ_get, if_pos rfl], rfl⟩))
end Go.Proofs.YtfabolagjlhdpaaGreat.EndK
