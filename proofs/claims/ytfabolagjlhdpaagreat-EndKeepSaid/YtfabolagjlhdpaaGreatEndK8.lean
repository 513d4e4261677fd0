/- The law EndKeep at its seat: a tick's contract, shown. -/
import Derived.Test.YtfabolagjlhdpaaGreatEndK7
namespace Go.Proofs.YtfabolagjlhdpaaGreat.EndK
open Am
set_option linter.all false
set_option maxRecDepth 100000
set_option maxHeartbeats 8000000
theorem askAll (base : H) (z : Blk) (hz : base = h0.push z) (ob tb : Blk) (role : Int) (A : Nat → Int) (B : Nat → Bool) (T : Nat → Int) (now t : Int) (LS : LoopSt) (hr : role = 1 ∨ role = 2) (t0 : 0 ≤ t) (t1 : t ≤ 1099511627776) (p4 : 0 < T 4) (h4 : T 4 ≤ 1099511627776) :
    Runs prN (.fn 27) [.p (some (base.nx + 16, 0, 0)), .i .i64 3] (dueH (jH cT base ob tb role A B T now) (base.nx + 16) (base.nx + 15) (endC role own0 T now (base.nx) true) A B t 3 LS)
      (fun v g => v = .un ∧ g.get (base.nx + 16) = some (.rows 23 [eRow (endC role own0 T t (base.nx) true)] false) ∧ g.get (base.nx + 19) = some (.rows 1 [[.p (some (base.nx + 16, 0, 0))]] false) ∧ g.get (base.nx + 20) = some (.rows 1 [[.p (some (base.nx + 15, 0, 0))]] false) ∧ g.get (base.nx + 21) = some (.rows 1 [[.i .i64 t]] false) ∧ g.get (base.nx + 22) = some (.loop { LS with st := .busy }) ∧
        g.get (base.nx + 23) = some (.rows 6 [cRow (fun i => decide (i = 3))] false) ∧ g.get (base.nx + 15) = some (.rows 12 [tRow (tk4 A T t) (tb4 B)] false) ∧ base.nx + 24 ≤ g.nx ∧
        (∀ i, i < base.nx + 18 → i ≠ base.nx + 16 → i ≠ base.nx + 15 → ∀ x, (jH cP base ob tb role A B T t).get i = some x → g.get i = some x)) := by
  have jnx : (jH cT base ob tb role A B T now).nx = base.nx + 19 := UJ_nx (cT_len role)
  have hn25 : (dueH (jH cT base ob tb role A B T now) (base.nx + 16) (base.nx + 15) (endC role own0 T now (base.nx) true) A B t 3 LS).nx = base.nx + 24 := by
    show (jH cT base ob tb role A B T now).nx + 1 + 1 + 1 + 1 + 1 = _
    rw [jnx]
  have ge : (dueH (jH cT base ob tb role A B T now) (base.nx + 16) (base.nx + 15) (endC role own0 T now (base.nx) true) A B t 3 LS).get (base.nx + 16) = some (.rows 23 [eRow (endC role own0 T t (base.nx) true)] false) := by
    unfold dueH tickG
    rw [H.get_set, jnx, if_neg (by omega), H.get_set, if_neg (by omega), H.get_set, if_neg (by omega), H.get_push, if_neg (fun q => by have q : base.nx + 16 = (jH cT base ob tb role A B T now).nx + 1 + 1 + 1 + 1 := q; rw [jnx] at q; omega), H.get_push, if_neg (fun q => by have q : base.nx + 16 = (jH cT base ob tb role A B T now).nx + 1 + 1 + 1 := q; rw [jnx] at q; omega), H.get_push, if_neg (fun q => by have q : base.nx + 16 = (jH cT base ob tb role A B T now).nx + 1 + 1 := q; rw [jnx] at q; omega), H.get_push, if_neg (fun q => by have q : base.nx + 16 = (jH cT base ob tb role A B T now).nx + 1 := q; rw [jnx] at q; omega), H.get_set, if_pos rfl]
    rfl
  refine runs_of_wpF (pr := prN) (by kernel_rfl) (af := Am.c_endpoint_End_due 59 60 38 62 61 63 24 65 64) (by kernel_rfl) (wpF_mono' (due_ask (kA := 55) (kk := 89) (e := base.nx + 16) (ts := base.nx + 15) (cp := base.nx + 8) (c := endC role own0 T t (base.nx) true) (T := T) (now := t) (A := fun i => if i = 3 then 0 else A i) (B := fun i => if i = 3 then false else B i)
    (Kp := fun i x => (i = base.nx + 19 ∧ x = .rows 1 [[.p (some (base.nx + 16, 0, 0))]] false) ∨ (i = base.nx + 20 ∧ x = .rows 1 [[.p (some (base.nx + 15, 0, 0))]] false) ∨ (i = base.nx + 21 ∧ x = .rows 1 [[.i .i64 t]] false) ∨ (i = base.nx + 22 ∧ x = .loop { LS with st := .busy }) ∨ (i = base.nx + 23 ∧ x = .rows 6 [cRow (fun i => decide (i = 3))] false) ∨ (i < base.nx + 18 ∧ i ≠ base.nx + 16 ∧ i ≠ base.nx + 15 ∧ (jH cP base ob tb role A B T t).get i = some x))
    rfl (by kernel_rfl) (by kernel_rfl) (by kernel_rfl) (by kernel_rfl) (by omega) (by rw [hn25]; omega) (by rw [hn25]; omega) ge rfl ⟨rfl, rfl, rfl, rfl, rfl⟩ rfl rfl t0 t1 h4 p4 ?_ ?_) ?_)
  · rintro i x (h | h | h | h | h | h) <;> omega
  · rw [hn25]
    refine Runs.mono (pingAll base z hz ob tb role A B T now t LS hr) ?_
    rintro v g ⟨q1, q2, q3, q4, q5, q6, q8⟩
    have L := looks_get q6
    obtain ⟨s1, s2, s3⟩ := sees_end (ob := ob) (tb := tb) (role := role) (A := fun i => if i = 3 then 0 else A i) (B := fun i => if i = 3 then false else B i) (c := upd (endC role own0 T now (base.nx) true) 12 (.i .i64 t)) (z := some z) (cP_len role (base.nx + 2))
    refine ⟨(Option.some.inj (s2.symm.trans (L 16 (by omega)))).symm, (Option.some.inj (s1.symm.trans (L 15 (by omega)))).symm, by omega, ?_⟩
    rintro i x (⟨rfl, rfl⟩ | ⟨rfl, rfl⟩ | ⟨rfl, rfl⟩ | ⟨rfl, rfl⟩ | ⟨rfl, rfl⟩ | ⟨h1, h2, h3, hx⟩)
    · exact q1
    · exact q2
    · exact q3
    · exact q4
    · exact q5
    · by_cases hi : i < base.nx
      · have e : (jH cP base ob tb role A B T t).get i = base.get i := by
          show (UH base ob tb (cP role) role A B _).get i = _
          rw [UH_base (cP_len role) hi]
        rw [e] at hx
        subst hz; exact keeps_of (Option.some.inj ((looks_z q6).symm.trans (sees_z (cP_len role _)))) i x hx
      · obtain ⟨j, rfl⟩ : ∃ j, i = base.nx + j := ⟨i - base.nx, by omega⟩
        have := (sees_j (base := base) (ob := ob) (tb := tb) (role := role) (A := fun i => if i = 3 then 0 else A i) (A' := A) (B := fun i => if i = 3 then false else B i) (B' := B) (T := T) (t := t) (c := upd (endC role own0 T now (base.nx) true) 12 (.i .i64 t)) (z := some z) j (by omega) (by omega) (by omega)).symm.trans (L j (by omega))
        rw [← Option.some.inj this]; exact hx
  · rintro v g ⟨rfl, r1, r2, r3, r4⟩
    rw [hn25] at r3
    exact ⟨rfl, r1, r4 _ _ (.inl ⟨rfl, rfl⟩), r4 _ _ (.inr (.inl ⟨rfl, rfl⟩)), r4 _ _ (.inr (.inr (.inl ⟨rfl, rfl⟩))), r4 _ _ (.inr (.inr (.inr (.inl ⟨rfl, rfl⟩)))), r4 _ _ (.inr (.inr (.inr (.inr (.inl ⟨rfl, rfl⟩))))), r2, r3, fun i h1 h2 h3 x hx => r4 _ _ (.inr (.inr (.inr (.inr (.inr ⟨h1, h2, h3, hx⟩)))))⟩
theorem tickK_runs : ∀ ys h v h', TickK ys h v h' → Runs prN (.fn 9) ys h (fun v1 h1 => Abs h v1 h1 v h') := by
  have xT : prN.ext 9 = none := by kernel_rfl
  have fT : prN.fn 9 = some (Am.c_endpoint_End_Tick 26 27 28) := by kernel_rfl
  have xD : prN.ext 26 = some (gDue 56) := rfl
  have xf : prN.ext 28 = some gFlush := rfl
  have x1 : prN.ext 56 = none := by kernel_rfl
  have f1 : prN.fn 56 = some (c_timer_Set_Due_1 57 58) := by kernel_rfl
  have xn : prN.ext 57 = some (gRl NextR) := rfl
  have xs : prN.ext 58 = some gStop := rfl
  rintro ys h v h' (⟨e, c, now, t, why, rfl, he, ge, c12, c17, hw, rfl, rfl⟩ | ⟨p, base, z, ob, tb, role, A, B, T, now, t, hz, hr, rfl, rfl, ht1, ht0, ht2, p4, h4, (⟨hq, rfl, rfl⟩ | ⟨rfl, hk, hA, hq2, rfl, rfl⟩ | ⟨rfl, hk, hA, rfl, rfl⟩)⟩)
  · refine runs_of_wpF xT fT (wpF_mono' (tick_ignore ge he c12 c17 hw) ?_)
    rintro v1 g ⟨rfl, hk⟩
    exact Abs.out rfl rfl hk
  · have hlow : ∀ i x, base.get i = some x → i < base.nx := fun i x hx => base_lt base (.inr (.inr ⟨z, hz⟩)) i x hx
    have unx : (jH (cX p) base ob tb role A B T now).nx = base.nx + 19 := UJ_nx (cX_len p role)
    refine runs_of_wpF xT fT (wpF_mono' (tick_none (e := base.nx + 16) (now := now) (ts := base.nx + 15) xD xf x1 f1 xn ((UJ_get _).trans (UH_e (cX_len p role))) (by rw [unx]; omega) rfl rfl rfl rfl ht1 ht2 (by rw [unx]; omega) (by omega) ((UJ_get _).trans (UH_t (cX_len p role))) hq) ?_)
    rintro v1 g ⟨rfl, hk, hg⟩
    exact noneJ_abs hlow (cX_len p role) (relX p role _) (fun i hi => endJ_live (cX_len p role) own_ok hi) hk hg
  · have hlow : ∀ i x, base.get i = some x → i < base.nx := fun i x hx => base_lt base (.inr (.inr ⟨z, hz⟩)) i x hx
    have unx : (jH cT base ob tb role A B T now).nx = base.nx + 19 := UJ_nx (cT_len role)
    refine runs_of_wpF xT fT (wpF_mono' (tick_ask (e := base.nx + 16) (now := now) (ts := base.nx + 15) (c' := endC role own0 T t (base.nx) true) (A' := tk4 A T t) (B' := tb4 B) (Kp := fun i x => i < base.nx + 18 ∧ i ≠ base.nx + 16 ∧ i ≠ base.nx + 15 ∧ (jH cP base ob tb role A B T t).get i = some x) xD xf x1 f1 xn ((UJ_get _).trans (UH_e (cT_len role))) (by rw [unx]; omega) rfl rfl rfl rfl ht1 ht2 (by rw [unx]; omega) (by omega) ((UJ_get _).trans (UH_t (cT_len role))) xs (by rw [hk]; omega) (by rw [hk]; exact hA) (fun i x hi => ⟨by rw [unx]; omega, hi.2.1⟩) hk (fun LS => ?_) rfl rfl hq2) ?_)
    · rw [unx]
      refine Runs.mono (askAll base z hz ob tb role A B T now t LS hr ht0 ht2 p4 h4) ?_
      rintro v g ⟨rfl, r1, r2, r3, r4, r5, r6, r7, r8, r9⟩
      exact ⟨rfl, r1, r2, r3, r4, r5, r6, r7, r8, fun i x hx => r9 i hx.1 hx.2.1 hx.2.2.1 x hx.2.2.2⟩
    · rintro v1 g ⟨rfl, gn, ge, gt, hkp⟩
      refine upd_abs (j := 1) (j' := 1) (h := base) (cB := cT role) (cB' := cP role) (σ := fun _ => 0) hlow (cT_len role) (cP_len role) (Nat.le_refl _) ?_ ?_ ?_ ?_ gt ge ?_ (relP role _) ?_ ⟨rfl, rfl, rfl⟩
      · exact hkp _ _ ⟨by omega, by omega, by omega, UH_ob (cP_len role)⟩ (by omega)
      · exact hkp _ _ ⟨by omega, by omega, by omega, UH_tb (cP_len role)⟩ (by omega)
      · intro i x hx
        have := hlow i x hx
        exact hkp _ _ ⟨by omega, by omega, by omega, (UH_base (cP_len role) (by omega)).trans hx⟩ (by omega)
      · intro i hi
        have e := (UH_conn (h := base) (ob := ob) (tb := tb) (role := role) (A := A) (B := B) (c := endC role own0 T t base.nx true) (cP_len role) hi)
        rw [List.getElem?_eq_getElem (by rw [cP_len]; exact hi)] at e ⊢
        exact hkp _ _ ⟨by omega, by omega, by omega, e⟩ (by omega)
      · exact hkp _ _ ⟨by omega, by omega, by omega, UH_drain (cP_len role)⟩ (by omega)
      · intro i hi
        exact endJ_live (cT_len role) own_ok hi
  · have hlow : ∀ i x, base.get i = some x → i < base.nx := fun i x hx => base_lt base (.inr (.inr ⟨z, hz⟩)) i x hx
    have unx : (jH cP base ob tb role A B T now).nx = base.nx + 19 := UJ_nx (cP_len role)
    refine runs_of_wpF xT fT (wpF_mono' (tick_close (e := base.nx + 16) (now := now) (ts := base.nx + 15) (why := 5) (c' := shutC own0 role T t (base.nx) 4 (.sl (some (base.nx + 30, 0)) 1 1 false)) (Kp := fun i x => base.get i = some x) xD xf x1 f1 xn ((UJ_get _).trans (UH_e (cP_len role))) (by rw [unx]; omega) rfl rfl rfl rfl ht1 ht2 (by rw [unx]; omega) (by omega) ((UJ_get _).trans (UH_t (cP_len role))) xs (by rw [hk]; omega) (by rw [hk]; exact hA) (by omega) (fun i x hi => ⟨by rw [unx]; have := hlow i x hi; omega, by have := hlow i x hi; omega⟩) (fun LS => ?_) rfl) ?_)
    · rw [hk, unx]
      exact deadAll base z hz ob tb role A B T now t LS hr
    · rintro v1 g ⟨rfl, _, hg, hkp⟩
      exact closeJ_abs (j := 1) (h := base) (base := base) (id := base.nx + 30) (k := 1) (cP_len role) (fun i x hi => ⟨by have := hlow i x hi; exact this, hi, hkp i x hi⟩) (fun i hi => shut_live (cP_len role) own_ok hi) hg
end Go.Proofs.YtfabolagjlhdpaaGreat.EndK
