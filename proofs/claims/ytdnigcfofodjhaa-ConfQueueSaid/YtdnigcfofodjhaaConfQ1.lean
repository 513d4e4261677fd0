/- What the queues of the layer 'conf' do. -/
import Derived.Test.YtdnigcfofodjhaaConf3
import Derived.Test.YtdnigcfofodjhaaAmSl
namespace Am
set_option linter.unusedVariables false
set_option linter.unusedSimpArgs false
set_option maxRecDepth 10000
set_option maxHeartbeats 4000000
variable {pr : Prog}

def startV : V := .agg [.i .i64 4096, .i .i64 4294967295, .i .i64 65535, .i .i64 16384, .i .i64 4294967295]
def gStart (as : List V) (h : H) : Option (V × H) :=
  match as with
  | [] => some (startV, h)
  | _ => none
theorem start_ok : OkFor pr c_conf_Start gStart := by
  intro as h v h' hg
  unfold gStart at hg
  split at hg
  · cases hg
    unfold wpF c_conf_Start
    refine ⟨by simp, ?_⟩
    simp only [↓STEP, go_sem, ↓reduceIte, Nat.reduceEqDiff, Nat.reduceLeDiff, Nat.reduceLT, Nat.reduceAdd, Nat.reduceSub, Nat.reduceMul, Int.reduceLT, Int.reduceLE, Int.reduceEq, Int.reduceAdd, Int.reduceSub, Int.reduceMul, Int.reduceNeg, Int.reduceToNat, reduceCtorEq]
    exact Abs.out rfl rfl (by (repeat (first | exact Kept.refl | apply Kept.push | refine Kept.kill ?_ (by omega) | refine Kept.set ?_ (by omega))))
  · cases hg
theorem start12_ok : OkFor pr c_isthmusref12_Start gStart := start_ok

/-- What is on its way, in force, told, whether it has begun. -/
structure Sq where
  way : List Cf
  f : Cf
  l : Cf
  bg : Bool
def Cf.may (c : Cf) : Bool := okMay c.a c.b c.c c.d c.e
def Sq.push (s : Sq) (c : Cf) : Int × Sq := if c.may = false then (1, s) else if 4 ≤ s.way.length then (9, s) else (0, { s with way := s.way ++ [c], l := c })
def Sq.ack (s : Sq) : Bool × Sq :=
  match s.way with
  | [] => (false, s)
  | w :: ws => (true, ⟨ws, w, s.l, true⟩)
def Sq.begin (s : Sq) : Bool × Sq :=
  if s.bg = true then (false, s) else
  match s.way with
  | [] => (false, s)
  | w :: _ => (true, { s with f := w, bg := true })
def qRow (a : Option (Nat × Nat)) (n c : Nat) (ex : Bool) (f l : Cf) (bg : Bool) : List V :=
  [.sl a n c ex, .i .i64 f.a, .i .i64 f.b, .i .i64 f.c, .i .i64 f.d, .i .i64 f.e, .i .i64 l.a, .i .i64 l.b, .i .i64 l.c, .i .i64 l.d, .i .i64 l.e, .b bg]
def rRow (a : Option (Nat × Nat)) (n c : Nat) (ex : Bool) (f l : Cf) (bg : Bool) : List V :=
  [.i .i64 f.a, .i .i64 f.b, .i .i64 f.c, .i .i64 f.d, .i .i64 f.e, .sl a n c ex, .i .i64 l.a, .i .i64 l.b, .i .i64 l.c, .i .i64 l.d, .i .i64 l.e, .b bg]
def SqOk (s : Sq) : Prop := s.way.length ≤ 4 ∧ (s.bg = false → s.way ≠ [])
def QRep (row : Option (Nat × Nat) → Nat → Nat → Bool → Cf → Cf → Bool → List V) (h : H) (Q : Nat) (a : Option (Nat × Nat)) (s : Sq) : Prop :=
  ∃ c ex, h.get Q = some (.rows 12 [row a s.way.length c ex s.f s.l s.bg] false) ∧ RSl h 5 a s.way.length c (s.way.map Cf.row) ∧ Q < h.nx ∧ blkOf a ≠ some Q ∧ SqOk s
def Foot (h h' : H) (Q : Nat) (a a' : Option (Nat × Nat)) : Prop :=
  h.nx ≤ h'.nx ∧ (∀ i, i < h.nx → i ≠ Q → blkOf a ≠ some i → h'.get i = h.get i) ∧ (∀ i, blkOf a' = some i → blkOf a = some i ∨ h.nx ≤ i)
def cfV (c : Cf) : V := .agg [.i .i64 c.a, .i .i64 c.b, .i .i64 c.c, .i .i64 c.d, .i .i64 c.e]

theorem QRep.keep {row : Option (Nat × Nat) → Nat → Nat → Bool → Cf → Cf → Bool → List V} {h g : H} {Q : Nat} {a : Option (Nat × Nat)} {s : Sq} (hr : QRep row h Q a s) (hk : Kept h g) : QRep row g Q a s := by
  obtain ⟨c, ex, hq, ho, hlt, hne, hok⟩ := hr
  exact ⟨c, ex, by rw [hk.2 _ hlt]; exact hq, ho.keep hk.1 fun i hi => hk.2 i (ho.lt hi), Nat.lt_of_lt_of_le hlt hk.1, hne, hok⟩
theorem Kept.foot {h g : H} (hk : Kept h g) (Q : Nat) (a : Option (Nat × Nat)) : Foot h g Q a a := ⟨hk.1, fun i hi _ _ => hk.2 i hi, fun i hi => .inl hi⟩
theorem room5 {n : Nat} (h : n ≤ 5) : roomOk n 40 = true := by simp [roomOk]; omega

theorem qpush_runs {k km : Nat} (hx : pr.ext k = none) (hf : pr.fn k = some (c_conf_Queue_Push km)) (hm : pr.ext km = some gMay) {h : H} {Q : Nat} {a : Option (Nat × Nat)} {s : Sq} (hr : QRep qRow h Q a s) (c0 : Cf) :
    Runs pr (.fn k) [.p (some (Q, 0, 0)), cfV c0] h (fun v h' => v = .i .i64 (s.push c0).1 ∧ ∃ a', QRep qRow h' Q a' (s.push c0).2 ∧ Foot h h' Q a a') := by
  have hr0 := hr
  obtain ⟨c, ex, hq, ho, hlt, hne, hok⟩ := hr
  refine runs_of_wpF hx hf ?_
  unfold wpF c_conf_Queue_Push cfV
  refine ⟨by simp, ?_⟩
  have xm := @wpCall_ext pr km _ hm
  have n1 : Q ≠ h.nx := by omega
  have n2 : Q ≠ h.nx + 1 := by omega
  unfold qRow at hq
  by_cases hmay : c0.may = false
  · have e : s.push c0 = (1, s) := if_pos hmay
    unfold Cf.may at hmay
    simp only [↓STEP, go_sem, ↓reduceIte, Nat.reduceEqDiff, Nat.reduceLeDiff, Nat.reduceLT, Nat.reduceAdd, Nat.reduceSub, Nat.reduceMul, Int.reduceLT, Int.reduceLE, Int.reduceEq, Int.reduceAdd, Int.reduceSub, Int.reduceMul, Int.reduceNeg, Int.reduceToNat, reduceCtorEq, xm, gMay_eq, hmay, hq, n1, e]
    exact ⟨a, hr0.keep (by (repeat (first | exact Kept.refl | apply Kept.push | refine Kept.kill ?_ (by omega) | refine Kept.set ?_ (by omega)))), (show Kept h _ by (repeat (first | exact Kept.refl | apply Kept.push | refine Kept.kill ?_ (by omega) | refine Kept.set ?_ (by omega)))).foot Q a⟩
  · have hmay' : okMay c0.a c0.b c0.c c0.d c0.e = true := by unfold Cf.may at hmay; simpa using hmay
    by_cases h4 : 4 ≤ s.way.length
    · have e : s.push c0 = (9, s) := by unfold Sq.push; rw [if_neg hmay, if_pos h4]
      have h4' : (4 : Int) ≤ (s.way.length : Int) := by omega
      have h4'' := eq_true h4'
      simp only [↓STEP, go_sem, ↓reduceIte, Nat.reduceEqDiff, Nat.reduceLeDiff, Nat.reduceLT, Nat.reduceAdd, Nat.reduceSub, Nat.reduceMul, Int.reduceLT, Int.reduceLE, Int.reduceEq, Int.reduceAdd, Int.reduceSub, Int.reduceMul, Int.reduceNeg, Int.reduceToNat, reduceCtorEq, xm, gMay_eq, hmay', hq, n1, e, h4'']
      exact ⟨a, hr0.keep (by (repeat (first | exact Kept.refl | apply Kept.push | refine Kept.kill ?_ (by omega) | refine Kept.set ?_ (by omega)))), (show Kept h _ by (repeat (first | exact Kept.refl | apply Kept.push | refine Kept.kill ?_ (by omega) | refine Kept.set ?_ (by omega)))).foot Q a⟩
    · have e : s.push c0 = (0, { s with way := s.way ++ [c0], l := c0 }) := by unfold Sq.push; rw [if_neg hmay, if_neg h4]
      have h4' : ¬ (4 : Int) ≤ (s.way.length : Int) := by omega
      have hk : Kept h ((h.push (.rows 5 [[V.i Go.IntKind.i64 c0.a, V.i Go.IntKind.i64 c0.b, V.i Go.IntKind.i64 c0.c, V.i Go.IntKind.i64 c0.d, V.i Go.IntKind.i64 c0.e]] false)).push (.rows 5 [[V.i Go.IntKind.i64 c0.a, V.i Go.IntKind.i64 c0.b, V.i Go.IntKind.i64 c0.c, V.i Go.IntKind.i64 c0.d, V.i Go.IntKind.i64 c0.e]] false)) := by (repeat (first | exact Kept.refl | apply Kept.push | refine Kept.kill ?_ (by omega) | refine Kept.set ?_ (by omega)))
      have o2 := ho.keep hk.1 fun i hi => hk.2 i (ho.lt hi)
      obtain ⟨a', c', ex', g, q1, q2, q3, q4, q5⟩ := o2.app (bytes := 40) (ex := ex) (new := [[V.i Go.IntKind.i64 c0.a, V.i Go.IntKind.i64 c0.b, V.i Go.IntKind.i64 c0.c, V.i Go.IntKind.i64 c0.d, V.i Go.IntKind.i64 c0.e]]) (room5 (by simp; omega))
      have gQ := q4 Q (by simp only [↓STEP, go_sem, ↓reduceIte, Nat.reduceEqDiff, Nat.reduceLeDiff, Nat.reduceLT, Nat.reduceAdd, Nat.reduceSub, Nat.reduceMul, Int.reduceLT, Int.reduceLE, Int.reduceEq, Int.reduceAdd, Int.reduceSub, Int.reduceMul, Int.reduceNeg, Int.reduceToNat, reduceCtorEq]; omega) hne
      have gB := q4 h.nx (by simp only [↓STEP, go_sem, ↓reduceIte, Nat.reduceEqDiff, Nat.reduceLeDiff, Nat.reduceLT, Nat.reduceAdd, Nat.reduceSub, Nat.reduceMul, Int.reduceLT, Int.reduceLE, Int.reduceEq, Int.reduceAdd, Int.reduceSub, Int.reduceMul, Int.reduceNeg, Int.reduceToNat, reduceCtorEq]; try omega) (fun hb => by have := ho.lt hb; omega)
      simp only [↓STEP, go_sem, ↓reduceIte, Nat.reduceEqDiff, Nat.reduceLeDiff, Nat.reduceLT, Nat.reduceAdd, Nat.reduceSub, Nat.reduceMul, Int.reduceLT, Int.reduceLE, Int.reduceEq, Int.reduceAdd, Int.reduceSub, Int.reduceMul, Int.reduceNeg, Int.reduceToNat, reduceCtorEq, n1, n2, hq] at gQ gB
      have hble : Nat.ble (h.nx + 2) g.nx = true := by simp only [↓STEP, go_sem, ↓reduceIte, Nat.reduceEqDiff, Nat.reduceLeDiff, Nat.reduceLT, Nat.reduceAdd, Nat.reduceSub, Nat.reduceMul, Int.reduceLT, Int.reduceLE, Int.reduceEq, Int.reduceAdd, Int.reduceSub, Int.reduceMul, Int.reduceNeg, Int.reduceToNat, reduceCtorEq] at q3; rw [Nat.ble_eq]; exact q3
      have n3 : h.nx ≠ Q := by omega
      simp only [↓STEP, go_sem, ↓reduceIte, Nat.reduceEqDiff, Nat.reduceLeDiff, Nat.reduceLT, Nat.reduceAdd, Nat.reduceSub, Nat.reduceMul, Int.reduceLT, Int.reduceLE, Int.reduceEq, Int.reduceAdd, Int.reduceSub, Int.reduceMul, Int.reduceNeg, Int.reduceToNat, reduceCtorEq] at q1
      have hb2 : Nat.ble (h.nx + 1) (h.nx + 2) = true := by rw [Nat.ble_eq]; omega
      simp only [↓STEP, go_sem, ↓reduceIte, Nat.reduceEqDiff, Nat.reduceLeDiff, Nat.reduceLT, Nat.reduceAdd, Nat.reduceSub, Nat.reduceMul, Int.reduceLT, Int.reduceLE, Int.reduceEq, Int.reduceAdd, Int.reduceSub, Int.reduceMul, Int.reduceNeg, Int.reduceToNat, reduceCtorEq, hb2, xm, gMay_eq, hmay', hq, n1, n2, n3, e, h4', q1, gQ, gB, hble]
      refine ⟨a', ⟨c', ex', by simp only [↓STEP, go_sem, ↓reduceIte, Nat.reduceEqDiff, Nat.reduceLeDiff, Nat.reduceLT, Nat.reduceAdd, Nat.reduceSub, Nat.reduceMul, Int.reduceLT, Int.reduceLE, Int.reduceEq, Int.reduceAdd, Int.reduceSub, Int.reduceMul, Int.reduceNeg, Int.reduceToNat, reduceCtorEq, qRow, List.length_append], ?_, ?_, ?_, ?_⟩, ?_⟩
      · rw [List.map_append, List.length_append]
        exact q2.keep (Nat.le_refl _) fun i hi => by
          have : i ≠ Q := by
            rintro rfl
            rcases q5 with ⟨z, _⟩ | ⟨z, _⟩
            · rw [z] at hi; exact hne hi
            · rw [z] at hi; simp only [↓STEP, go_sem, ↓reduceIte, Nat.reduceEqDiff, Nat.reduceLeDiff, Nat.reduceLT, Nat.reduceAdd, Nat.reduceSub, Nat.reduceMul, Int.reduceLT, Int.reduceLE, Int.reduceEq, Int.reduceAdd, Int.reduceSub, Int.reduceMul, Int.reduceNeg, Int.reduceToNat, reduceCtorEq] at hi; cases hi; omega
          simp only [↓STEP, go_sem, ↓reduceIte, Nat.reduceEqDiff, Nat.reduceLeDiff, Nat.reduceLT, Nat.reduceAdd, Nat.reduceSub, Nat.reduceMul, Int.reduceLT, Int.reduceLE, Int.reduceEq, Int.reduceAdd, Int.reduceSub, Int.reduceMul, Int.reduceNeg, Int.reduceToNat, reduceCtorEq, this]
      · simp only [↓STEP, go_sem, ↓reduceIte, Nat.reduceEqDiff, Nat.reduceLeDiff, Nat.reduceLT, Nat.reduceAdd, Nat.reduceSub, Nat.reduceMul, Int.reduceLT, Int.reduceLE, Int.reduceEq, Int.reduceAdd, Int.reduceSub, Int.reduceMul, Int.reduceNeg, Int.reduceToNat, reduceCtorEq] at q3 ⊢; omega
      · intro hi
        rcases q5 with ⟨z, _⟩ | ⟨z, _⟩
        · rw [z] at hi; exact hne hi
        · rw [z] at hi; simp only [↓STEP, go_sem, ↓reduceIte, Nat.reduceEqDiff, Nat.reduceLeDiff, Nat.reduceLT, Nat.reduceAdd, Nat.reduceSub, Nat.reduceMul, Int.reduceLT, Int.reduceLE, Int.reduceEq, Int.reduceAdd, Int.reduceSub, Int.reduceMul, Int.reduceNeg, Int.reduceToNat, reduceCtorEq] at hi; cases hi; omega
      · exact ⟨by simp only [List.length_append, List.length_cons, List.length_nil]; omega, fun _ => by simp⟩
      · refine ⟨by simp only [↓STEP, go_sem, ↓reduceIte, Nat.reduceEqDiff, Nat.reduceLeDiff, Nat.reduceLT, Nat.reduceAdd, Nat.reduceSub, Nat.reduceMul, Int.reduceLT, Int.reduceLE, Int.reduceEq, Int.reduceAdd, Int.reduceSub, Int.reduceMul, Int.reduceNeg, Int.reduceToNat, reduceCtorEq] at q3 ⊢; omega, fun i hi h1 h2 => ?_, fun i hi => ?_⟩
        · have := q4 i (by simp only [↓STEP, go_sem, ↓reduceIte, Nat.reduceEqDiff, Nat.reduceLeDiff, Nat.reduceLT, Nat.reduceAdd, Nat.reduceSub, Nat.reduceMul, Int.reduceLT, Int.reduceLE, Int.reduceEq, Int.reduceAdd, Int.reduceSub, Int.reduceMul, Int.reduceNeg, Int.reduceToNat, reduceCtorEq]; omega) h2
          simp only [↓STEP, go_sem, ↓reduceIte, Nat.reduceEqDiff, Nat.reduceLeDiff, Nat.reduceLT, Nat.reduceAdd, Nat.reduceSub, Nat.reduceMul, Int.reduceLT, Int.reduceLE, Int.reduceEq, Int.reduceAdd, Int.reduceSub, Int.reduceMul, Int.reduceNeg, Int.reduceToNat, reduceCtorEq, h1, show i ≠ h.nx by omega, show i ≠ h.nx + 1 by omega] at this ⊢
          exact this
        · rcases q5 with ⟨z, _⟩ | ⟨z, _⟩
          · rw [z] at hi; exact .inl hi
          · rw [z] at hi; simp only [↓STEP, go_sem, ↓reduceIte, Nat.reduceEqDiff, Nat.reduceLeDiff, Nat.reduceLT, Nat.reduceAdd, Nat.reduceSub, Nat.reduceMul, Int.reduceLT, Int.reduceLE, Int.reduceEq, Int.reduceAdd, Int.reduceSub, Int.reduceMul, Int.reduceNeg, Int.reduceToNat, reduceCtorEq] at hi; cases hi; exact .inr (by omega)
end Am
