/- endpoint: a new end. -/
import Derived.Test.YtfabolagjlhdpaaGreatEnd5
import Derived.Test.YtfabolagjlhdpaaGreatAmMake
namespace Am
set_option linter.all false
set_option maxRecDepth 20000
set_option maxHeartbeats 8000000
open Go (IntKind)
variable {pr : Prog}
theorem wpF_mono' {af : AFunc} {args : List V} {h : H} {K K' : V → H → Prop} (hw : wpF pr af args h K) (hk : ∀ v h', K v h' → K' v h') : wpF pr af args h K' := by
  refine ⟨hw.1, wpA_mono hw.2 ?_⟩
  intro e t h' hr
  unfold wpRes at hr ⊢
  cases e <;> first | exact hr | (obtain ⟨vs, h2, h3⟩ := hr; exact ⟨vs, h2, hk _ _ h3⟩)
def gTNew (ys : List V) (h : H) : Option (V × H) :=
  match ys with
  | [] => some (.p (some (h.nx, 0, 0)), h.push (.rows 12 [tRow (fun _ => 0) (fun _ => false)] false))
  | _ => none
theorem tnew_ok : OkFor pr c_timer_New gTNew := by
  intro ys h v h' hg
  unfold gTNew at hg
  split at hg
  · cases hg
    unfold wpF c_timer_New
    refine ⟨by simp, ?_⟩
    simp only [↓STEP, go_sem, ↓reduceIte, Nat.reduceEqDiff, Nat.reduceLeDiff, Nat.reduceLT, Nat.reduceAdd, Nat.reduceSub, Nat.reduceMul, Int.reduceLT, Int.reduceLE, Int.reduceEq, Int.reduceAdd, Int.reduceSub, Int.reduceMul, Int.reduceNeg, Int.reduceToNat, reduceCtorEq]
    exact Abs.refl
  · cases hg
def gDNew (ys : List V) (h : H) : Option (V × H) :=
  match ys with
  | [.i .i64 role] => if role = 1 ∨ role = 2 then some (.tup [.p (some (h.nx, 0, 0)), .i .i64 0], h.push (.rows 2 [[.i .i64 role, .i .i64 0]] false)) else some (.tup [.p none, .i .i64 1], h)
  | _ => none
theorem dnew_ok : OkFor pr c_drain_New gDNew := by
  intro ys h v h' hg
  unfold gDNew at hg
  split at hg
  · rename_i role
    unfold wpF c_drain_New
    refine ⟨by simp, ?_⟩
    split at hg
    · rename_i hr
      cases hg
      rcases hr with rfl | rfl
      · simp only [↓STEP, go_sem, ↓reduceIte, Nat.reduceEqDiff, Nat.reduceLeDiff, Nat.reduceLT, Nat.reduceAdd, Nat.reduceSub, Nat.reduceMul, Int.reduceLT, Int.reduceLE, Int.reduceEq, Int.reduceAdd, Int.reduceSub, Int.reduceMul, Int.reduceNeg, Int.reduceToNat, reduceCtorEq]
        exact Abs.refl
      · simp only [↓STEP, go_sem, ↓reduceIte, Nat.reduceEqDiff, Nat.reduceLeDiff, Nat.reduceLT, Nat.reduceAdd, Nat.reduceSub, Nat.reduceMul, Int.reduceLT, Int.reduceLE, Int.reduceEq, Int.reduceAdd, Int.reduceSub, Int.reduceMul, Int.reduceNeg, Int.reduceToNat, reduceCtorEq]
        exact Abs.refl
    · rename_i hr
      cases hg
      have h1 : ¬ role = 1 := fun h => hr (.inl h)
      have h2 : ¬ role = 2 := fun h => hr (.inr h)
      simp only [↓STEP, go_sem, ↓reduceIte, Nat.reduceEqDiff, Nat.reduceLeDiff, Nat.reduceLT, Nat.reduceAdd, Nat.reduceSub, Nat.reduceMul, Int.reduceLT, Int.reduceLE, Int.reduceEq, Int.reduceAdd, Int.reduceSub, Int.reduceMul, Int.reduceNeg, Int.reduceToNat, reduceCtorEq, h1, h2]
      exact Abs.refl
  · cases hg
/-- The deadlines, one of them armed from a time on, if there is a time for it. -/
def armA (T : Nat → Int) (k : Nat) (A : Nat → Int) : Nat → Int := if 0 < T k then setF A k (min (T k) 1099511627776) else A
def armB (T : Nat → Int) (k : Nat) (B : Nat → Bool) : Nat → Bool := if 0 < T k then setF B k true else B
def newA (T : Nat → Int) : Nat → Int := armA T 3 (armA T 1 (armA T 2 (fun _ => 0)))
def newB (T : Nat → Int) : Nat → Bool := armB T 3 (armB T 1 (armB T 2 (fun _ => false)))
/-- The cells of an end. -/
def endC (role : Int) (own : Nat → V) (T : Nat → Int) (now : Int) (n : Nat) (begun : Bool) : Nat → V
  | 0 => .i .i64 role
  | 1 => .i .i64 0
  | 2 => own 0
  | 3 => own 1
  | 4 => own 2
  | 5 => own 3
  | 6 => own 4
  | 7 => .i .i64 (T 1)
  | 8 => .i .i64 (T 2)
  | 9 => .i .i64 (T 3)
  | 10 => .i .i64 (T 4)
  | 11 => .i .i64 (T 5)
  | 12 => .i .i64 now
  | 13 => .p (some (n + 8, 0, 0))
  | 14 => .p (some (n + 17, 0, 0))
  | 15 => .p (some (n + 15, 0, 0))
  | 16 => .b begun
  | 17 => .i .i64 0
  | 20 => .b false
  | _ => nilS
/-- The heap with an end of its own: 'n' the next number ahead of it. -/
def UH (h : H) (ob tb : Blk) (cB : Nat → List Blk) (role : Int) (A : Nat → Int) (B : Nat → Bool) (c : Nat → V) : H :=
  (((pushAll ((h.push ob).push tb) (cB (h.nx + 2))).push (.rows 12 [tRow A B] false)).push (.rows 23 [eRow c] false)).push (.rows 2 [[.i .i64 role, .i .i64 0]] false)
theorem arm_runs0 {kk kA : Nat} (xk : pr.ext kk = some gKind) (xA : pr.ext kA = none) (fA : pr.fn kA = some (c_timer_Set_Arm kk)) {h : H} {e ts k : Nat} {c : Nat → V} {T : Nat → Int} {A : Nat → Int} {B : Nat → Bool} (hk : 1 ≤ k) (hk5 : k ≤ 5)
    (ge : h.get e = some (.rows 23 [eRow c] false)) (g : h.get ts = some (.rows 12 [tRow A B] false)) (cT : TimesAt c T) (c12 : c 12 = .i .i64 0) (c15 : c 15 = .p (some (ts, 0, 0))) (h1 : T k ≤ 1099511627776) :
    wpF pr (c_endpoint_End_arm kA) [.p (some (e, 0, 0)), .i .i64 (k : Nat)] h (fun v g => v = .un ∧ g.nx = h.nx ∧ ∀ b, g.get b = if b = ts then some (.rows 12 [tRow (armA T k A) (armB T k B)] false) else h.get b) := by
  refine wpF_mono' (arm_runs xk xA fA hk hk5 ge g cT c12 c15 (by omega) (by omega) h1) ?_
  rintro v g' ⟨rfl, rfl⟩
  unfold armA armB
  by_cases hT : 0 < T k
  · rw [if_pos hT, if_pos hT, if_pos hT, Int.zero_add]
    exact ⟨rfl, rfl, fun b => H.get_set _ _ _ _⟩
  · rw [if_neg hT, if_neg hT, if_neg hT]
    refine ⟨rfl, rfl, fun b => ?_⟩
    by_cases hb : b = ts
    · subst hb; rw [if_pos rfl]; exact g
    · rw [if_neg hb]
theorem begins_runs {kk kA ka : Nat} (xk : pr.ext kk = some gKind) (xA : pr.ext kA = none) (fA : pr.fn kA = some (c_timer_Set_Arm kk)) (xa : pr.ext ka = none) (fa : pr.fn ka = some (c_endpoint_End_arm kA)) {h : H} {e ts : Nat} {c : Nat → V} {T : Nat → Int} {A : Nat → Int} {B : Nat → Bool} (hne : e ≠ ts)
    (ge : h.get e = some (.rows 23 [eRow c] false)) (g : h.get ts = some (.rows 12 [tRow A B] false)) (cT : TimesAt c T) (c12 : c 12 = .i .i64 0) (c15 : c 15 = .p (some (ts, 0, 0))) (h1 : T 1 ≤ 1099511627776) (h3 : T 3 ≤ 1099511627776) :
    wpF pr (c_endpoint_End_begins ka) [.p (some (e, 0, 0))] h (fun v g => v = .un ∧ g.nx = h.nx ∧ ∀ b, g.get b = if b = ts then some (.rows 12 [tRow (armA T 3 (armA T 1 A)) (armB T 3 (armB T 1 B))] false) else if b = e then some (.rows 23 [eRow (upd c 16 (.b true))] false) else h.get b) := by
  have ge' := ge
  unfold eRow at ge
  unfold wpF c_endpoint_End_begins
  refine ⟨by simp, ?_⟩
  simp only [↓STEP, go_sem, ↓reduceIte, Nat.reduceEqDiff, Nat.reduceLeDiff, Nat.reduceLT, Nat.reduceAdd, Nat.reduceSub, Nat.reduceMul, Int.reduceLT, Int.reduceLE, Int.reduceEq, Int.reduceAdd, Int.reduceSub, Int.reduceMul, Int.reduceNeg, Int.reduceToNat, reduceCtorEq, ge]
  have e1 : (h.set e (.rows 23 [[c 0, c 1, c 2, c 3, c 4, c 5, c 6, c 7, c 8, c 9, c 10, c 11, c 12, c 13, c 14, c 15, .b true, c 17, c 18, c 19, c 20, c 21, c 22]] false)).get e = some (.rows 23 [eRow (upd c 16 (.b true))] false) := by rw [H.get_set, if_pos rfl]; rfl
  have e2 : ∀ b, (h.set e (.rows 23 [[c 0, c 1, c 2, c 3, c 4, c 5, c 6, c 7, c 8, c 9, c 10, c 11, c 12, c 13, c 14, c 15, .b true, c 17, c 18, c 19, c 20, c 21, c 22]] false)).get b = if b = e then some (.rows 23 [eRow (upd c 16 (.b true))] false) else h.get b := fun b => by rw [H.get_set]; rfl
  refine Runs.mono (c := .fn ka) (as := [.p (some (e, 0, 0)), .i .i64 1] ++ []) (runs_of_wpF xa fa (arm_runs0 xk xA fA (k := 1) (c := upd c 16 (.b true)) (T := T) (A := A) (B := B) (ts := ts) (by omega) (by omega) e1 (by rw [e2, if_neg (Ne.symm hne)]; exact g) cT c12 c15 h1)) ?_
  rintro v g1 ⟨rfl, n1, q1⟩
  try simp only [↓STEP, go_sem, ↓reduceIte, Nat.reduceEqDiff, Nat.reduceLeDiff, Nat.reduceLT, Nat.reduceAdd, Nat.reduceSub, Nat.reduceMul, Int.reduceLT, Int.reduceLE, Int.reduceEq, Int.reduceAdd, Int.reduceSub, Int.reduceMul, Int.reduceNeg, Int.reduceToNat, reduceCtorEq]
  refine Runs.mono (c := .fn ka) (as := [.p (some (e, 0, 0)), .i .i64 3] ++ []) (runs_of_wpF xa fa (arm_runs0 xk xA fA (k := 3) (c := upd c 16 (.b true)) (T := T) (A := armA T 1 A) (B := armB T 1 B) (ts := ts) (by omega) (by omega) (by rw [q1, if_neg hne]; exact e1) (by rw [q1, if_pos rfl]) cT c12 c15 h3)) ?_
  rintro v g2 ⟨rfl, n2, q2⟩
  try simp only [↓STEP, go_sem, ↓reduceIte, Nat.reduceEqDiff, Nat.reduceLeDiff, Nat.reduceLT, Nat.reduceAdd, Nat.reduceSub, Nat.reduceMul, Int.reduceLT, Int.reduceLE, Int.reduceEq, Int.reduceAdd, Int.reduceSub, Int.reduceMul, Int.reduceNeg, Int.reduceToNat, reduceCtorEq]
  refine ⟨n2.trans n1, fun b => ?_⟩
  rw [q2, q1]
  by_cases hb : b = ts
  · rw [if_pos hb, if_pos hb]
  · rw [if_neg hb, if_neg hb, if_neg hb, e2]
theorem new_walk {kt kC kN kd ka kb kk kA : Nat} {gC : List V → H → Option (V × H)} {cB : Nat → List Blk} {own : Nat → V} {T : Nat → Int} {role : Int} {h : H} (xt : pr.ext kt = some gTime) (xC : pr.ext kC = some gC) (xN : pr.ext kN = some gTNew) (xd : pr.ext kd = some gDNew) (xa : pr.ext ka = none) (fa : pr.fn ka = some (c_endpoint_End_arm kA))
    (xb : pr.ext kb = none) (fb : pr.fn kb = some (c_endpoint_End_begins ka)) (xk : pr.ext kk = some gKind) (xA : pr.ext kA = none) (fA : pr.fn kA = some (c_timer_Set_Arm kk))
    (hr : role = 1 ∨ role = 2) (hown : ∀ i, i < 5 → ∃ k n, own i = .i k n) (hcl : ∀ n, (cB n).length = 13) (yC : ∀ g, gC [.i .i64 role, .agg [own 0, own 1, own 2, own 3, own 4]] g = some (.tup [.p (some (g.nx + 6, 0, 0)), .i .i64 0], pushAll g (cB g.nx)))
    (hT : ∀ i, 1 ≤ i → i ≤ 5 → timeOk (T i) = true) :
    wpF pr (c_endpoint_New kt kC kN kd ka kb) [.i .i64 role, .i .i64 0, .agg [own 0, own 1, own 2, own 3, own 4], .agg [.i .i64 (T 1), .i .i64 (T 2), .i .i64 (T 3), .i .i64 (T 4), .i .i64 (T 5)], .i .i64 0] h
      (fun v g => v = .tup [.p (some (h.nx + 16, 0, 0)), .i .i64 0] ∧ g.nx = h.nx + 18 ∧ ∀ b, g.get b = (UH h (.rows 5 [[own 0, own 1, own 2, own 3, own 4]] false) (.rows 5 [[.i .i64 (T 1), .i .i64 (T 2), .i .i64 (T 3), .i .i64 (T 4), .i .i64 (T 5)]] false) cB role (newA T) (newB T) (endC role own T 0 h.nx true)).get b) := by
  have z1 := @wpCall_ext pr kt _ xt
  have z2 := @wpCall_ext pr kC _ xC
  have z3 := @wpCall_ext pr kN _ xN
  have z4 := @wpCall_ext pr kd _ xd
  have yt : ∀ i g, 1 ≤ i → i ≤ 5 → gTime [.i .i64 (T i)] g = some (.b true, g) := fun i g h1 h2 => by unfold gTime; simp [hT i h1 h2]
  have y0 : ∀ g, gTime [.i .i64 0] g = some (.b true, g) := fun g => rfl
  have y1 := fun g => yt 1 g (by omega) (by omega)
  have y2 := fun g => yt 2 g (by omega) (by omega)
  have y3 := fun g => yt 3 g (by omega) (by omega)
  have y4 := fun g => yt 4 g (by omega) (by omega)
  have y5 := fun g => yt 5 g (by omega) (by omega)
  have yN : ∀ g, gTNew [] g = some (.p (some (g.nx, 0, 0)), g.push (.rows 12 [tRow (fun _ => 0) (fun _ => false)] false)) := fun g => rfl
  have yd : ∀ g, gDNew [.i .i64 role] g = some (.tup [.p (some (g.nx, 0, 0)), .i .i64 0], g.push (.rows 2 [[.i .i64 role, .i .i64 0]] false)) := fun g => by unfold gDNew; simp [hr]
  obtain ⟨k0, n0, o0⟩ := hown 0 (by omega)
  obtain ⟨k1, n1, o1⟩ := hown 1 (by omega)
  obtain ⟨k2, n2, o2⟩ := hown 2 (by omega)
  obtain ⟨k3, n3, o3⟩ := hown 3 (by omega)
  obtain ⟨k4, n4, o4⟩ := hown 4 (by omega)
  rw [o0, o1, o2, o3, o4] at yC ⊢
  unfold UH
  obtain ⟨G, hG⟩ : ∃ G, G = pushAll ((h.push (.rows 5 [[.i k0 n0, .i k1 n1, .i k2 n2, .i k3 n3, .i k4 n4]] false)).push (.rows 5 [[.i .i64 (T 1), .i .i64 (T 2), .i .i64 (T 3), .i .i64 (T 4), .i .i64 (T 5)]] false)) (cB (h.nx + 2)) := ⟨_, rfl⟩
  rw [← hG]
  have yC2 : gC [.i .i64 role, .agg [.i k0 n0, .i k1 n1, .i k2 n2, .i k3 n3, .i k4 n4]] ((h.push (.rows 5 [[.i k0 n0, .i k1 n1, .i k2 n2, .i k3 n3, .i k4 n4]] false)).push (.rows 5 [[.i .i64 (T 1), .i .i64 (T 2), .i .i64 (T 3), .i .i64 (T 4), .i .i64 (T 5)]] false)) = some (.tup [.p (some (h.nx + 8, 0, 0)), .i .i64 0], G) := by
    rw [yC, hG]; rfl
  have gnx : G.nx = h.nx + 15 := by rw [hG, pushAll_nx, hcl]; rfl
  have g0 : G.get h.nx = some (.rows 5 [[.i k0 n0, .i k1 n1, .i k2 n2, .i k3 n3, .i k4 n4]] false) := by
    rw [hG, pushAll_get, if_neg (fun q => by have q1 : h.nx + 1 + 1 ≤ h.nx := q.1; omega), H.get_push, if_neg (fun q => by have q : h.nx = h.nx + 1 := q; omega), H.get_push, if_pos rfl]
  have g1 : G.get (h.nx + 1) = some (.rows 5 [[.i .i64 (T 1), .i .i64 (T 2), .i .i64 (T 3), .i .i64 (T 4), .i .i64 (T 5)]] false) := by
    rw [hG, pushAll_get, if_neg (fun q => by have q1 : h.nx + 1 + 1 ≤ h.nx + 1 := q.1; omega), H.get_push]; exact if_pos rfl
  clear hG yC
  have m0 : ¬ h.nx = G.nx := by omega
  have m1 : ¬ h.nx + 1 = G.nx := by omega
  have m2 : ¬ h.nx + 1 = G.nx + 1 := by omega
  have m3 : ¬ h.nx = G.nx + 1 := by omega
  unfold wpF c_endpoint_New
  refine ⟨by simp, ?_⟩
  simp only [↓STEP, go_sem, ↓reduceIte, Nat.reduceEqDiff, Nat.reduceLeDiff, Nat.reduceLT, Nat.reduceAdd, Nat.reduceSub, Nat.reduceMul, Int.reduceLT, Int.reduceLE, Int.reduceEq, Int.reduceAdd, Int.reduceSub, Int.reduceMul, Int.reduceNeg, Int.reduceToNat, reduceCtorEq, z1, y0, y1, y2, y3, y4, y5, z2, yC2, z3, yN, z4, yd, g0, g1, m0, m1, m2, m3, ble_self]
  refine ⟨Nat.ble_eq_true_of_le (by omega), ?_⟩
  have hle : ∀ i, 1 ≤ i → i ≤ 5 → T i ≤ 1099511627776 := fun i h1 h2 => by
    have := hT i h1 h2
    unfold timeOk at this
    rw [Bool.and_eq_true, decide_eq_true_iff, decide_eq_true_iff] at this
    exact this.2
  have rowE : [V.i IntKind.i64 role, V.i IntKind.i64 0, V.i k0 n0, V.i k1 n1, V.i k2 n2, V.i k3 n3, V.i k4 n4, V.i IntKind.i64 (T 1), V.i IntKind.i64 (T 2), V.i IntKind.i64 (T 3), V.i IntKind.i64 (T 4), V.i IntKind.i64 (T 5), V.i IntKind.i64 0, V.p (some (h.nx + 8, 0, 0)), V.p (some (G.nx + 2, 0, 0)), V.p (some (G.nx, 0, 0)), V.b false, V.i IntKind.i64 0, V.sl none 0 0 true, V.sl none 0 0 true, V.b false, V.sl none 0 0 true, V.sl none 0 0 true] = eRow (endC role own T 0 h.nx false) := by
    simp [eRow, endC, nilS, gnx, o0, o1, o2, o3, o4]
  rw [rowE]
  have q0 : ∀ b, ((((G.push (.rows 12 [tRow (fun x => 0) fun x => false] false)).push (.rows 23 [[V.i IntKind.i64 role, V.i IntKind.i64 0, V.i k0 n0, V.i k1 n1, V.i k2 n2, V.i k3 n3, V.i k4 n4, V.i IntKind.i64 (T 1), V.i IntKind.i64 (T 2), V.i IntKind.i64 (T 3), V.i IntKind.i64 (T 4), V.i IntKind.i64 (T 5), V.i IntKind.i64 0, V.p (some (h.nx + 8, 0, 0)), V.p none, V.p (some (G.nx, 0, 0)), V.b false, V.i IntKind.i64 0, V.sl none 0 0 true, V.sl none 0 0 true, V.b false, V.sl none 0 0 true, V.sl none 0 0 true]] false)).push (.rows 2 [[.i .i64 role, .i .i64 0]] false)).set (G.nx + 1) (.rows 23 [eRow (endC role own T 0 h.nx false)] false)).get b = if b = G.nx + 1 then some (.rows 23 [eRow (endC role own T 0 h.nx false)] false) else if b = G.nx + 2 then some (.rows 2 [[.i .i64 role, .i .i64 0]] false) else if b = G.nx then some (.rows 12 [tRow (fun _ => 0) (fun _ => false)] false) else G.get b := by
    intro b
    rw [H.get_set]
    by_cases h1 : b = G.nx + 1
    · rw [if_pos h1, if_pos h1]
    · rw [if_neg h1, if_neg h1, H.get_push]
      show (if b = G.nx + 2 then _ else _) = _
      by_cases h2 : b = G.nx + 2
      · rw [if_pos h2, if_pos h2]
      · rw [if_neg h2, if_neg h2, H.get_push]
        show (if b = G.nx + 1 then _ else _) = _
        rw [if_neg h1, H.get_push]
  have q0n : ((((G.push (.rows 12 [tRow (fun x => 0) fun x => false] false)).push (.rows 23 [[V.i IntKind.i64 role, V.i IntKind.i64 0, V.i k0 n0, V.i k1 n1, V.i k2 n2, V.i k3 n3, V.i k4 n4, V.i IntKind.i64 (T 1), V.i IntKind.i64 (T 2), V.i IntKind.i64 (T 3), V.i IntKind.i64 (T 4), V.i IntKind.i64 (T 5), V.i IntKind.i64 0, V.p (some (h.nx + 8, 0, 0)), V.p none, V.p (some (G.nx, 0, 0)), V.b false, V.i IntKind.i64 0, V.sl none 0 0 true, V.sl none 0 0 true, V.b false, V.sl none 0 0 true, V.sl none 0 0 true]] false)).push (.rows 2 [[.i .i64 role, .i .i64 0]] false)).set (G.nx + 1) (.rows 23 [eRow (endC role own T 0 h.nx false)] false)).nx = G.nx + 3 := rfl
  generalize ((((G.push (.rows 12 [tRow (fun x => 0) fun x => false] false)).push _).push _).set (G.nx + 1) _) = H1 at *
  have ce : endC role own T 0 h.nx false 15 = .p (some (G.nx, 0, 0)) := by rw [gnx]; rfl
  have cT : TimesAt (endC role own T 0 h.nx false) T := ⟨rfl, rfl, rfl, rfl, rfl⟩
  have ne1 : G.nx + 1 ≠ G.nx := by omega
  refine Runs.mono (c := .fn ka) (as := [.p (some (G.nx + 1, 0, 0)), .i .i64 2] ++ []) (runs_of_wpF xa fa (arm_runs0 xk xA fA (k := 2) (c := endC role own T 0 h.nx false) (T := T) (A := fun _ => 0) (B := fun _ => false) (ts := G.nx) (by omega) (by omega) (by rw [q0, if_pos rfl]) (by rw [q0, if_neg (by omega), if_neg (by omega), if_pos rfl]) cT rfl ce (hle 2 (by omega) (by omega)))) ?_
  rintro v g2 ⟨rfl, n2', q2⟩
  try simp only [↓STEP, go_sem, ↓reduceIte, Nat.reduceEqDiff, Nat.reduceLeDiff, Nat.reduceLT, Nat.reduceAdd, Nat.reduceSub, Nat.reduceMul, Int.reduceLT, Int.reduceLE, Int.reduceEq, Int.reduceAdd, Int.reduceSub, Int.reduceMul, Int.reduceNeg, Int.reduceToNat, reduceCtorEq]
  refine Runs.mono (c := .fn kb) (as := [.p (some (G.nx + 1, 0, 0))] ++ []) (runs_of_wpF xb fb (begins_runs xk xA fA xa fa (c := endC role own T 0 h.nx false) (T := T) (A := armA T 2 (fun _ => 0)) (B := armB T 2 (fun _ => false)) (ts := G.nx) ne1 (by rw [q2, if_neg ne1, q0, if_pos rfl]) (by rw [q2, if_pos rfl]) cT rfl ce (hle 1 (by omega) (by omega)) (hle 3 (by omega) (by omega)))) ?_
  rintro v g3 ⟨rfl, n3', q3⟩
  try simp only [↓STEP, go_sem, ↓reduceIte, Nat.reduceEqDiff, Nat.reduceLeDiff, Nat.reduceLT, Nat.reduceAdd, Nat.reduceSub, Nat.reduceMul, Int.reduceLT, Int.reduceLE, Int.reduceEq, Int.reduceAdd, Int.reduceSub, Int.reduceMul, Int.reduceNeg, Int.reduceToNat, reduceCtorEq]
  refine ⟨by rw [gnx], by rw [n3', n2', q0n, gnx], fun b => ?_⟩
  rw [q3, q2, q0]
  have hu : eRow (upd (endC role own T 0 h.nx false) 16 (.b true)) = eRow (endC role own T 0 h.nx true) := rfl
  rw [hu]
  by_cases b0 : b = G.nx
  · subst b0
    rw [if_pos rfl, if_neg (by omega), if_neg (by omega), if_pos rfl]; rfl
  · rw [if_neg b0, if_neg b0]
    by_cases b1 : b = G.nx + 1
    · rw [if_pos b1, if_neg (by omega), if_pos b1]
    · rw [if_neg b1, if_neg b1, if_neg b0]
      by_cases b2 : b = G.nx + 2
      · rw [if_pos b2, if_pos b2]
      · rw [if_neg b2, if_neg b2, if_neg b1, if_neg b0]
end Am
