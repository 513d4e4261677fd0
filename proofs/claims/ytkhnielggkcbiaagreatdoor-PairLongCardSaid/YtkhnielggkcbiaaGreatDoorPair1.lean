/- pair: a step that is a tick. -/
import Derived.Test.YtkhnielggkcbiaaGreatDoorCodesAll
import Derived.Test.YtkhnielggkcbiaaGreatDoorEnd15
import Derived.Test.YtkhnielggkcbiaaGreatDoorAmShift
namespace Am
set_option linter.all false
set_option maxRecDepth 20000
set_option maxHeartbeats 8000000
open Go (IntKind)
variable {pr : Prog}
/-- A step that is a tick of one. -/
def tickS : List V := [.i .i64 6, .i .i64 0, .i .i64 0, .i .i64 1, .sl none 0 0 true, .sl none 0 0 true, .b false, .i .i64 0, .i .i64 0, .i .i64 0, .i .i64 0, .i .i64 0]
def pRow (a b c d : V) (now : Int) : List V := [a, b, c, d, .i .i64 now]
theorem may_runs {h : H} {p : Nat} {a b c d : V} {now : Int} (hp : h.get p = some (.rows 5 [pRow a b c d now] false)) (hlt : p < h.nx) (h0 : 0 ≤ now) (h1 : now + 1 ≤ 1099511627776) :
    wpF pr c_pair_Pair_may [.p (some (p, 0, 0)), .agg tickS] h (fun v g => v = .b true ∧ Kept h g) := by
  have hn : ¬ p = h.nx := by omega
  have hw : IntKind.wrap .i64 (now + 1) = now + 1 := wrap_i64 (by omega) (by omega)
  unfold pRow at hp
  unfold tickS
  unfold wpF c_pair_Pair_may
  refine ⟨by simp, ?_⟩
  simp only [↓STEP, go_sem, ↓reduceIte, Nat.reduceEqDiff, Nat.reduceLeDiff, Nat.reduceLT, Nat.reduceAdd, Nat.reduceSub, Nat.reduceMul, Int.reduceLT, Int.reduceLE, Int.reduceEq, Int.reduceAdd, Int.reduceSub, Int.reduceMul, Int.reduceNeg, Int.reduceToNat, reduceCtorEq, hp, hn, hw, h1]
  exact Kept.refl.push
def gEnd0 (ys : List V) (h : H) : Option (V × H) :=
  match ys with
  | [.p (some _), .i .i64 0] => some (.tup [.p none, .p none], h)
  | _ => none
theorem end0_ok : OkFor pr c_pair_Pair_end gEnd0 := by
  intro ys h v h' hg
  unfold gEnd0 at hg
  split at hg
  · rename_i p
    cases hg
    obtain ⟨b, r, o⟩ := p
    unfold wpF c_pair_Pair_end
    refine ⟨by simp, ?_⟩
    simp only [↓STEP, go_sem, ↓reduceIte, Nat.reduceEqDiff, Nat.reduceLeDiff, Nat.reduceLT, Nat.reduceAdd, Nat.reduceSub, Nat.reduceMul, Int.reduceLT, Int.reduceLE, Int.reduceEq, Int.reduceAdd, Int.reduceSub, Int.reduceMul, Int.reduceNeg, Int.reduceToNat, reduceCtorEq]
    exact Abs.out rfl rfl Kept.refl
  · cases hg
def gNoted0 (ys : List V) (h : H) : Option (V × H) :=
  match ys with
  | [.sl none 0 0 true, .i .i64 _, .sl none 0 0 true] => some (nilS, h)
  | _ => none
theorem noted0_ok : OkFor pr c_pair_noted gNoted0 := by
  intro ys h v h' hg
  unfold gNoted0 at hg
  split at hg
  · cases hg
    unfold wpF c_pair_noted
    refine ⟨by simp, ?_⟩
    simp only [↓STEP, go_sem, ↓reduceIte, Nat.reduceEqDiff, Nat.reduceLeDiff, Nat.reduceLT, Nat.reduceAdd, Nat.reduceSub, Nat.reduceMul, Int.reduceLT, Int.reduceLE, Int.reduceEq, Int.reduceAdd, Int.reduceSub, Int.reduceMul, Int.reduceNeg, Int.reduceToNat, reduceCtorEq]
    refine wpA_loop ?_
    simp only [↓STEP, go_sem, ↓reduceIte, Nat.reduceEqDiff, Nat.reduceLeDiff, Nat.reduceLT, Nat.reduceAdd, Nat.reduceSub, Nat.reduceMul, Int.reduceLT, Int.reduceLE, Int.reduceEq, Int.reduceAdd, Int.reduceSub, Int.reduceMul, Int.reduceNeg, Int.reduceToNat, reduceCtorEq]
    exact Abs.out rfl rfl Kept.refl
  · cases hg
/-- What a tick wants of an end. -/
def EndZ (h : H) (e ts : Nat) (c : Nat → V) (A : Nat → Int) (B : Nat → Bool) (now : Int) : Prop :=
  e < h.nx ∧ h.get e = some (.rows 23 [eRow c] false) ∧ c 12 = .i .i64 now ∧ c 15 = .p (some (ts, 0, 0)) ∧ c 17 = .i .i64 0 ∧ ts < h.nx ∧ e ≠ ts ∧ h.get ts = some (.rows 12 [tRow A B] false) ∧ (∀ i, i < 6 → B i = false) ∧ c 22 = nilS ∧ ∀ i, i < 23 → Live h (c i)
theorem EndZ.keep {h g : H} {e ts : Nat} {c : Nat → V} {A : Nat → Int} {B : Nat → Bool} {now : Int} (z : EndZ h e ts c A B now) (hn : h.nx ≤ g.nx) (he : g.get e = h.get e) (ht : g.get ts = h.get ts) (hl : ∀ i, i < h.nx → (h.get i).isSome = true → (g.get i).isSome = true) : EndZ g e ts c A B now := by
  obtain ⟨z1, z2, z3, z4, z5, z6, z7, z8, z9, z10, z11⟩ := z
  exact ⟨by omega, he.trans z2, z3, z4, z5, by omega, z7, ht.trans z8, z9, z10, fun i hi => V.rel_mono (fun a b q => ⟨q.1, Nat.lt_of_lt_of_le q.2.1 hn, hl a q.2.1 q.2.2⟩) (z11 i hi)⟩
theorem tickZ_at {h : H} {e ts : Nat} {c : Nat → V} {A : Nat → Int} {B : Nat → Bool} {now t : Int} (z : EndZ h e ts c A B now) (h1 : now ≤ t) (h2 : t ≤ 1099511627776) : gRl TickZ [.p (some (e, 0, 0)), .i .i64 t] h = some (nilS, h.set e (.rows 23 [eRow (upd c 12 (.i .i64 t))] false)) := by
  obtain ⟨z1, z2, z3, z4, z5, z6, z7, z8, z9, z10, z11⟩ := z
  exact gRl_at tickZ_one ⟨e, ts, c, A, B, now, t, rfl, z1, z2, z3, z4, z5, h1, h2, z6, z7, z8, z9, z10, z11, rfl, rfl⟩
theorem does_runs {kE kG kC kN kD kT kS kCh kCu : Nat} (xE : pr.ext kE = some gEnd0) (xN : pr.ext kN = some gNoted0) (xT : pr.ext kT = some (gRl TickZ)) {h : H} {p e1 e2 t1 t2 : Nat} {c d : V} {c1 c2 : Nat → V} {A1 A2 : Nat → Int} {B1 B2 : Nat → Bool} {now : Int}
    (hp : h.get p = some (.rows 5 [pRow (.p (some (e1, 0, 0))) (.p (some (e2, 0, 0))) c d now] false)) (hlt : p < h.nx) (h0 : 0 ≤ now) (h1 : now + 1 ≤ 1099511627776) (z1 : EndZ h e1 t1 c1 A1 B1 now) (z2 : EndZ h e2 t2 c2 A2 B2 now)
    (p1 : p ≠ e1) (p2 : p ≠ e2) (p3 : p ≠ t1) (p4 : p ≠ t2) (e12 : e1 ≠ e2) (e1t : e1 ≠ t2) :
    wpF pr (c_pair_Pair_does kE kG kC kN kD kT kS kCh kCu) [.p (some (p, 0, 0)), .agg tickS] h (fun v g => v = .tup [nilS, .i .i64 0] ∧ h.nx ≤ g.nx ∧ ∀ i, i < h.nx → g.get i = if i = e2 then some (.rows 23 [eRow (upd c2 12 (.i .i64 (now + 1)))] false) else if i = e1 then some (.rows 23 [eRow (upd c1 12 (.i .i64 (now + 1)))] false) else if i = p then some (.rows 5 [pRow (.p (some (e1, 0, 0))) (.p (some (e2, 0, 0))) c d (now + 1)] false) else h.get i) := by
  have hn : ¬ p = h.nx := by omega
  have hn2 : ¬ h.nx = p := by omega
  have hw : IntKind.wrap .i64 (now + 1) = now + 1 := wrap_i64 (by omega) (by omega)
  have x1 := @wpCall_ext pr kE _ xE
  have y1 : ∀ q g, gEnd0 [.p (some q), .i .i64 0] g = some (.tup [.p none, .p none], g) := fun _ _ => rfl
  have x2 := @wpCall_ext pr kN _ xN
  have y2 : ∀ k g, gNoted0 [.sl none 0 0 true, .i .i64 k, nilS] g = some (nilS, g) := fun _ _ => rfl
  have y3 : ∀ k g, gNoted0 [nilS, .i .i64 k, nilS] g = some (nilS, g) := fun _ _ => rfl
  have x3 := @wpCall_ext pr kT _ xT
  unfold pRow at hp
  unfold tickS
  unfold wpF c_pair_Pair_does
  refine ⟨by simp, ?_⟩
  simp only [↓STEP, go_sem, ↓reduceIte, Nat.reduceEqDiff, Nat.reduceLeDiff, Nat.reduceLT, Nat.reduceAdd, Nat.reduceSub, Nat.reduceMul, Int.reduceLT, Int.reduceLE, Int.reduceEq, Int.reduceAdd, Int.reduceSub, Int.reduceMul, Int.reduceNeg, Int.reduceToNat, reduceCtorEq, hp, hn, hn2, hw, x1, y1]
  generalize hG : (h.push _).set p _ = G
  have Gn : G.nx = h.nx + 1 := by rw [← hG]; rfl
  have Gg : ∀ i, i < h.nx → G.get i = if i = p then some (.rows 5 [[.p (some (e1, 0, 0)), .p (some (e2, 0, 0)), c, d, .i .i64 (now + 1)]] false) else h.get i := fun i hi => by
    rw [← hG, H.get_set]
    by_cases hip : i = p
    · rw [if_pos hip, if_pos hip]
    · rw [if_neg hip, if_neg hip, H.get_push, if_neg (by omega)]
  have Gl : ∀ i, i < h.nx → (h.get i).isSome = true → (G.get i).isSome = true := fun i hi hs => by
    rw [Gg i hi]; split; rfl; exact hs
  clear hG
  have Gp := Gg p hlt
  rw [if_pos rfl] at Gp
  have z1' : EndZ G e1 t1 c1 A1 B1 now := z1.keep (by omega) (by rw [Gg _ z1.1, if_neg (Ne.symm p1)]) (by rw [Gg _ z1.2.2.2.2.2.1, if_neg (Ne.symm p3)]) Gl
  have z2' : EndZ G e2 t2 c2 A2 B2 now := z2.keep (by omega) (by rw [Gg _ z2.1, if_neg (Ne.symm p2)]) (by rw [Gg _ z2.2.2.2.2.2.1, if_neg (Ne.symm p4)]) Gl
  have q1 := tickZ_at z1' (t := now + 1) (by omega) h1
  have z3 : EndZ (G.set e1 (.rows 23 [eRow (upd c1 12 (.i .i64 (now + 1)))] false)) e2 t2 c2 A2 B2 now := z2'.keep (Nat.le_refl _) (by rw [H.get_set, if_neg (Ne.symm e12)]) (by rw [H.get_set, if_neg (Ne.symm e1t)]) (fun i hi hs => by rw [H.get_set]; split; rfl; exact hs)
  have q2 := tickZ_at z3 (t := now + 1) (by omega) h1
  have Gp2 : (G.set e1 (.rows 23 [eRow (upd c1 12 (.i .i64 (now + 1)))] false)).get p = some (.rows 5 [[.p (some (e1, 0, 0)), .p (some (e2, 0, 0)), c, d, .i .i64 (now + 1)]] false) := by rw [H.get_set, if_neg p1]; exact Gp
  have p1' : ¬ p = e1 := p1
  have p2' : ¬ p = e2 := p2
  simp only [↓STEP, go_sem, ↓reduceIte, Nat.reduceEqDiff, Nat.reduceLeDiff, Nat.reduceLT, Nat.reduceAdd, Nat.reduceSub, Nat.reduceMul, Int.reduceLT, Int.reduceLE, Int.reduceEq, Int.reduceAdd, Int.reduceSub, Int.reduceMul, Int.reduceNeg, Int.reduceToNat, reduceCtorEq, x3, q1, q2, x2, y2, Gn, Gp, p1', p2']
  rw [x2 (by rfl)]
  have y4 : ∀ g, gNoted0 ([nilS, .i .i64 2, nilS] ++ []) g = some (nilS, g) := fun _ => rfl
  rw [y4]
  simp only [↓STEP, go_sem, ↓reduceIte, Nat.reduceEqDiff, Nat.reduceLeDiff, Nat.reduceLT, Nat.reduceAdd, Nat.reduceSub, Nat.reduceMul, Int.reduceLT, Int.reduceLE, Int.reduceEq, Int.reduceAdd, Int.reduceSub, Int.reduceMul, Int.reduceNeg, Int.reduceToNat, reduceCtorEq, Gn]
  intro i hi
  rw [Gg i hi]
  unfold pRow
  rfl
/-- A step that is a tick, and what the pair is behind it: 'PB': the pair's blocks. -/
def DoR (PB : Int → Nat → List Blk) (ip : Nat) : Rl := ShiftR (D := Int) (fun now => 0 ≤ now ∧ now + 1 ≤ 1099511627776) (fun _ n => [.p (some (n + ip, 0, 0)), .agg tickS]) PB (fun _ _ => .tup [nilS, .i .i64 0]) (fun now n => PB (now + 1) n)
end Am
