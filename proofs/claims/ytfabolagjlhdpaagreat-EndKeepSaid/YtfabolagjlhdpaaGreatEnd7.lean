/- endpoint: a new end, as a contract. -/
import Derived.Test.YtfabolagjlhdpaaGreatEnd6
namespace Am
set_option linter.all false
set_option maxRecDepth 20000
set_option maxHeartbeats 8000000
open Go (IntKind)
variable {pr : Prog}
/-- A heap that reads the same. -/
theorem Abs.ext {h h1 h' : H} {v : V} (hn : h1.nx = h'.nx) (hg : ∀ b, h1.get b = h'.get b) : Abs h v h1 v h' := by
  intro C B e e' w w' u s hv st
  refine ⟨e', hv, ⟨st.le, ⟨fun b x hb => st.sim.blk b x (by rw [hg]; exact hb), fun b b' x x' l l' hb hb' => st.sim.inj b b' x x' l l' (by rw [hg]; exact hb) (by rw [hg]; exact hb'), fun b l hb => by rw [← hn]; exact st.sim.dom b l hb, st.sim.low, st.sim.gl, fun b l x hl hb => st.sim.tab b l x hl (by rw [hg]; exact hb)⟩, ?_, ?_, st.keep, st.grow, by rw [← hn]; exact st.nx, st.sky⟩⟩
  · rintro c ⟨b, x, l, hb, r⟩
    exact st.own c ⟨b, x, l, by rw [hg]; exact hb, r⟩
  · rintro c ⟨b, x, l, hb, r⟩
    exact st.img c ⟨b, x, l, by rw [hg]; exact hb, r⟩
def tOf (a b c d f : Int) : Nat → Int
  | 1 => a
  | 2 => b
  | 3 => c
  | 4 => d
  | 5 => f
  | _ => 0
def timesB (T : Nat → Int) : Blk := .rows 5 [[.i .i64 (T 1), .i .i64 (T 2), .i .i64 (T 3), .i .i64 (T 4), .i .i64 (T 5)]] false
def ownB (own : Nat → V) : Blk := .rows 5 [[own 0, own 1, own 2, own 3, own 4]] false
def ownV (own : Nat → V) : V := .agg [own 0, own 1, own 2, own 3, own 4]
/-- A new end: 'cB': a new connection's blocks, by role. -/
noncomputable def gNew (own : Nat → V) (cB : Int → Nat → List Blk) (ys : List V) (h : H) : Option (V × H) :=
  match ys with
  | [.i .i64 role, .i .i64 0, v, .agg [.i .i64 a, .i .i64 b, .i .i64 c, .i .i64 d, .i .i64 f], .i .i64 0] =>
    open Classical in if v = ownV own then
      (if timeOk a && timeOk b && timeOk c && timeOk d && timeOk f then
        (if role = 1 ∨ role = 2 then some (.tup [.p (some (h.nx + 16, 0, 0)), .i .i64 0], UH h (ownB own) (timesB (tOf a b c d f)) (cB role) role (newA (tOf a b c d f)) (newB (tOf a b c d f)) (endC role own (tOf a b c d f) 0 h.nx true))
         else some (.tup [.p none, .i .i64 1], h))
       else some (.tup [.p none, .i .i64 1], h))
    else none
  | _ => none
theorem new_ok {kt kC kN kd ka kb kk kA : Nat} {gC : List V → H → Option (V × H)} {cB : Int → Nat → List Blk} {own : Nat → V} (xt : pr.ext kt = some gTime) (xC : pr.ext kC = some gC) (xN : pr.ext kN = some gTNew) (xd : pr.ext kd = some gDNew) (xa : pr.ext ka = none) (fa : pr.fn ka = some (c_endpoint_End_arm kA))
    (xb : pr.ext kb = none) (fb : pr.fn kb = some (c_endpoint_End_begins ka)) (xk : pr.ext kk = some gKind) (xA : pr.ext kA = none) (fA : pr.fn kA = some (c_timer_Set_Arm kk))
    (hown : ∀ i, i < 5 → ∃ k n, own i = .i k n) (hcl : ∀ r n, (cB r n).length = 13) (yC : ∀ role, role = 1 ∨ role = 2 → ∀ g, gC [.i .i64 role, ownV own] g = some (.tup [.p (some (g.nx + 6, 0, 0)), .i .i64 0], pushAll g (cB role g.nx)))
    (yN : ∀ role, ¬ (role = 1 ∨ role = 2) → ∀ g, gC [.i .i64 role, ownV own] g = some (.tup [.p none, .i .i64 1], g)) :
    OkFor pr (c_endpoint_New kt kC kN kd ka kb) (gNew own cB) := by
  intro ys h v h' hg
  unfold gNew at hg
  split at hg
  · rename_i role v a b c d f
    split at hg
    · rename_i hv
      subst hv
      split at hg
      · rename_i ht
        simp only [Bool.and_eq_true] at ht
        obtain ⟨⟨⟨⟨ta, tb⟩, tc⟩, td⟩, tf⟩ := ht
        split at hg
        · rename_i hr
          cases hg
          refine wpF_mono' (new_walk (cB := cB role) (own := own) (T := tOf a b c d f) xt xC xN xd xa fa xb fb xk xA fA hr hown (hcl role) (yC role hr) (fun i h1 h2 => ?_)) ?_
          · match i, h1, h2 with
            | 1, _, _ => exact ta
            | 2, _, _ => exact tb
            | 3, _, _ => exact tc
            | 4, _, _ => exact td
            | 5, _, _ => exact tf
            | i + 6, _, h => exact absurd h (by omega)
          · rintro v1 g ⟨rfl, n1, q1⟩
            exact Abs.ext (by rw [n1]; unfold UH; show _ = (pushAll _ _).nx + 1 + 1 + 1; rw [pushAll_nx, hcl]; rfl) q1
        · rename_i hr
          cases hg
          have z1 := @wpCall_ext pr kt _ xt
          have z2 := @wpCall_ext pr kC _ xC
          have y0 : ∀ g, gTime [.i .i64 0] g = some (.b true, g) := fun g => rfl
          have y1 : ∀ x, timeOk x = true → ∀ g, gTime [.i .i64 x] g = some (.b true, g) := fun x hx g => by unfold gTime; simp [hx]
          have ya := y1 a ta
          have yb := y1 b tb
          have yc := y1 c tc
          have yd := y1 d td
          have yf := y1 f tf
          have y2 := yN role hr
          unfold ownV at y2 ⊢
          unfold wpF c_endpoint_New
          refine ⟨by simp, ?_⟩
          obtain ⟨k0, n0, o0⟩ := hown 0 (by omega)
          obtain ⟨k1, n1, o1⟩ := hown 1 (by omega)
          obtain ⟨k2, n2, o2⟩ := hown 2 (by omega)
          obtain ⟨k3, n3, o3⟩ := hown 3 (by omega)
          obtain ⟨k4, n4, o4⟩ := hown 4 (by omega)
          rw [o0, o1, o2, o3, o4] at y2 ⊢
          simp only [↓STEP, go_sem, ↓reduceIte, Nat.reduceEqDiff, Nat.reduceLeDiff, Nat.reduceLT, Nat.reduceAdd, Nat.reduceSub, Nat.reduceMul, Int.reduceLT, Int.reduceLE, Int.reduceEq, Int.reduceAdd, Int.reduceSub, Int.reduceMul, Int.reduceNeg, Int.reduceToNat, reduceCtorEq, z1, y0, ya, yb, yc, yd, yf, z2, y2]
          exact Abs.out rfl rfl Kept.refl.push.push
      · rename_i ht
        cases hg
        have z1 := @wpCall_ext pr kt _ xt
        have y1 : ∀ x g, gTime [.i .i64 x] g = some (.b (timeOk x), g) := fun x g => rfl
        unfold ownV
        unfold wpF c_endpoint_New
        refine ⟨by simp, ?_⟩
        obtain ⟨k0, n0, o0⟩ := hown 0 (by omega)
        obtain ⟨k1, n1, o1⟩ := hown 1 (by omega)
        obtain ⟨k2, n2, o2⟩ := hown 2 (by omega)
        obtain ⟨k3, n3, o3⟩ := hown 3 (by omega)
        obtain ⟨k4, n4, o4⟩ := hown 4 (by omega)
        rw [o0, o1, o2, o3, o4]
        cases ha : timeOk a <;> cases hb : timeOk b <;> cases hc : timeOk c <;> cases hd : timeOk d <;> cases hf : timeOk f <;> first | (exfalso; apply ht; rw [ha, hb, hc, hd, hf]; rfl) | (simp only [↓STEP, go_sem, ↓reduceIte, Nat.reduceEqDiff, Nat.reduceLeDiff, Nat.reduceLT, Nat.reduceAdd, Nat.reduceSub, Nat.reduceMul, Int.reduceLT, Int.reduceLE, Int.reduceEq, Int.reduceAdd, Int.reduceSub, Int.reduceMul, Int.reduceNeg, Int.reduceToNat, reduceCtorEq, z1, y1, ha, hb, hc, hd, hf]; exact Abs.out rfl rfl Kept.refl.push.push)
    · cases hg
  · cases hg
end Am
