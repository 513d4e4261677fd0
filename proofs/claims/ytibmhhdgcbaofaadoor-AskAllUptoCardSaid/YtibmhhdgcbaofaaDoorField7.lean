/- What the functions of the layer 'field' answer: requests, responses, trailers. -/
import Derived.Test.YtibmhhdgcbaofaaDoorField6
namespace Am
set_option linter.unusedVariables false
set_option linter.unusedSimpArgs false
set_option maxRecDepth 20000
set_option maxHeartbeats 8000000
variable {pr : Prog}

def getS (m : PM) (k : List UInt8) : List UInt8 := (look m k).getD []
abbrev kMethod : List UInt8 := [58, 109, 101, 116, 104, 111, 100]
abbrev kScheme : List UInt8 := [58, 115, 99, 104, 101, 109, 101]
abbrev kAuth : List UInt8 := [58, 97, 117, 116, 104, 111, 114, 105, 116, 121]
abbrev kPath : List UInt8 := [58, 112, 97, 116, 104]
abbrev kStatus : List UInt8 := [58, 115, 116, 97, 116, 117, 115]
def preSl (l : List UInt8) : Bool := decide (([47] : List UInt8).length ≤ l.length ∧ l.take ([47] : List UInt8).length = [47])
def reqP (m : PM) : Bool := !decide (getS m kMethod = []) && !decide (getS m kScheme = []) && decide (m.length = if (look m kAuth).isSome then 4 else 3) && (preSl (getS m kPath) || decide (getS m kPath = [42]))
noncomputable def gTell (P : PM → Bool) (as : List V) (h : H) : Option (V × H) :=
  match as with
  | [.sl p n cap ex] => (readRows Fd.row h 3 p n).bind fun fs => match psF [] false fs with
    | some m => some (.i .i64 (if P m = true then 0 else 5), h)
    | none => some (.i .i64 5, h)
  | _ => none
theorem gPseudo_some {h : H} {p : Option (Nat × Nat)} {n cap : Nat} {ex : Bool} {fs : List Fd} {m : PM} (hr : readRows Fd.row h 3 p n = some fs) (hm : psF [] false fs = some m) : gPseudo [.sl p n cap ex] h = some (.tup [.m (some h.nx), .b true], h.push (.map (ents m))) := by
  simp only [gPseudo, hr, Option.bind_some, hm]
theorem gPseudo_none {h : H} {p : Option (Nat × Nat)} {n cap : Nat} {ex : Bool} {fs : List Fd} (hr : readRows Fd.row h 3 p n = some fs) (hm : psF [] false fs = none) : gPseudo [.sl p n cap ex] h = some (.tup [.m none, .b false], h) := by
  simp only [gPseudo, hr, Option.bind_some, hm]

theorem trailers_ok {kp : Nat} (hp : pr.ext kp = some gPseudo) : OkF pr (c_field_Trailers kp) (gTell fun m => decide (m.length = 0)) := by
  intro as h v h' hg
  unfold gTell at hg
  split at hg
  · rename_i p n cap ex
    obtain ⟨fs, hfs, hg2⟩ := Option.bind_eq_some_iff.1 hg
    clear hg
    have hc := @wpCall_ext pr kp _ hp
    unfold wpF c_field_Trailers
    refine ⟨by simp, ?_⟩
    split at hg2
    · rename_i m hm
      cases hg2
      have hx := gPseudo_some (cap := cap) (ex := ex) hfs hm
      by_cases a : (0 : Int) < (m.length : Int)
      · simp only [↓STEP, go_sem, ↓reduceIte, Nat.reduceEqDiff, Nat.reduceLeDiff, Nat.reduceLT, Nat.reduceAdd, Nat.reduceSub, Nat.reduceMul, Int.reduceLT, Int.reduceLE, Int.reduceEq, Int.reduceAdd, Int.reduceSub, Int.reduceMul, Int.reduceNeg, Int.reduceToNat, reduceCtorEq, hc, hx, ents_len, a]
        exact Abs.out (by rw [if_neg (by omega)]) rfl (by (repeat (first | exact Kept.refl | apply Kept.push | refine Kept.kill ?_ (by omega) | refine Kept.set ?_ (by omega))))
      · simp only [↓STEP, go_sem, ↓reduceIte, Nat.reduceEqDiff, Nat.reduceLeDiff, Nat.reduceLT, Nat.reduceAdd, Nat.reduceSub, Nat.reduceMul, Int.reduceLT, Int.reduceLE, Int.reduceEq, Int.reduceAdd, Int.reduceSub, Int.reduceMul, Int.reduceNeg, Int.reduceToNat, reduceCtorEq, hc, hx, ents_len, a]
        exact Abs.out (by rw [if_pos (by omega)]) rfl (by (repeat (first | exact Kept.refl | apply Kept.push | refine Kept.kill ?_ (by omega) | refine Kept.set ?_ (by omega))))
    · rename_i hm
      cases hg2
      have hx := gPseudo_none (cap := cap) (ex := ex) hfs hm
      simp only [↓STEP, go_sem, ↓reduceIte, Nat.reduceEqDiff, Nat.reduceLeDiff, Nat.reduceLT, Nat.reduceAdd, Nat.reduceSub, Nat.reduceMul, Int.reduceLT, Int.reduceLE, Int.reduceEq, Int.reduceAdd, Int.reduceSub, Int.reduceMul, Int.reduceNeg, Int.reduceToNat, reduceCtorEq, hc, hx]
      exact Abs.out rfl rfl (by (repeat (first | exact Kept.refl | apply Kept.push | refine Kept.kill ?_ (by omega) | refine Kept.set ?_ (by omega))))
  · cases hg

def dig (lo hi : Int) (l : List UInt8) (i : Nat) : Bool :=
  match l[i]? with
  | some c => decide (lo ≤ (c.toNat : Int)) && decide ((c.toNat : Int) ≤ hi)
  | none => false
def respP (m : PM) : Bool := decide (m.length = 1) && decide ((getS m kStatus).length = 3) && dig 50 53 (getS m kStatus) 0 && dig 48 57 (getS m kStatus) 1 && dig 48 57 (getS m kStatus) 2
theorem response_ok {kp : Nat} (hp : pr.ext kp = some gPseudo) : OkF pr (c_field_Response kp) (gTell respP) := by
  intro as h v h' hg
  unfold gTell at hg
  split at hg
  · rename_i p n cap ex
    obtain ⟨fs, hfs, hg2⟩ := Option.bind_eq_some_iff.1 hg
    clear hg
    have hc := @wpCall_ext pr kp _ hp
    unfold wpF c_field_Response
    refine ⟨by simp, ?_⟩
    split at hg2
    · rename_i m hm
      cases hg2
      have hx := gPseudo_some (cap := cap) (ex := ex) hfs hm
      have fk := findKey_ents kStatus m
      have step : ∀ s : List UInt8, getS m kStatus = s → (∀ t : Tm, True) → True := fun _ _ _ => trivial
      by_cases a : (m.length : Int) = 1
      · have a' := eq_true a
        have a1 : decide (m.length = 1) = true := decide_eq_true (by omega)
        have main : ∀ s : List UInt8, getS m kStatus = s → (look m kStatus = some s ∨ (look m kStatus = none ∧ s = [])) →
            wpA pr 53 none (c_field_Response kp).code (Tm.args [.sl p n cap ex] 0) h (wpRes [.tmp 2] fun v1 h1 => Abs h v1 h1 (.i .i64 (if respP m = true then 0 else 5)) h) := by
          intro s hs hl
          have hgo : (look m kStatus).map V.s = none ∧ s = [] ∨ (look m kStatus).map V.s = some (.s s) := by
            rcases hl with hl | ⟨hl, rfl⟩
            · rw [hl]; exact .inr rfl
            · rw [hl]; exact .inl ⟨rfl, rfl⟩
          unfold respP
          rw [a1, hs]
          unfold c_field_Response
          match s, hgo with
          | [x, y, z], hgo =>
            rcases hgo with ⟨_, h0⟩ | hgo
            · cases h0
            rw [hgo] at fk
            by_cases d1 : (x.toNat : Int) < 50
            · simp only [↓STEP, go_sem, ↓reduceIte, Nat.reduceEqDiff, Nat.reduceLeDiff, Nat.reduceLT, Nat.reduceAdd, Nat.reduceSub, Nat.reduceMul, Int.reduceLT, Int.reduceLE, Int.reduceEq, Int.reduceAdd, Int.reduceSub, Int.reduceMul, Int.reduceNeg, Int.reduceToNat, reduceCtorEq, hc, hx, fk, ents_len, a', d1]
              exact Abs.out (by simp [dig]; omega) rfl (by (repeat (first | exact Kept.refl | apply Kept.push | refine Kept.kill ?_ (by omega) | refine Kept.set ?_ (by omega))))
            by_cases d2 : (53 : Int) < x.toNat
            · simp only [↓STEP, go_sem, ↓reduceIte, Nat.reduceEqDiff, Nat.reduceLeDiff, Nat.reduceLT, Nat.reduceAdd, Nat.reduceSub, Nat.reduceMul, Int.reduceLT, Int.reduceLE, Int.reduceEq, Int.reduceAdd, Int.reduceSub, Int.reduceMul, Int.reduceNeg, Int.reduceToNat, reduceCtorEq, hc, hx, fk, ents_len, a', d1, d2]
              exact Abs.out (by simp [dig]; omega) rfl (by (repeat (first | exact Kept.refl | apply Kept.push | refine Kept.kill ?_ (by omega) | refine Kept.set ?_ (by omega))))
            by_cases d3 : (y.toNat : Int) < 48
            · simp only [↓STEP, go_sem, ↓reduceIte, Nat.reduceEqDiff, Nat.reduceLeDiff, Nat.reduceLT, Nat.reduceAdd, Nat.reduceSub, Nat.reduceMul, Int.reduceLT, Int.reduceLE, Int.reduceEq, Int.reduceAdd, Int.reduceSub, Int.reduceMul, Int.reduceNeg, Int.reduceToNat, reduceCtorEq, hc, hx, fk, ents_len, a', d1, d2, d3]
              exact Abs.out (by simp [dig]; omega) rfl (by (repeat (first | exact Kept.refl | apply Kept.push | refine Kept.kill ?_ (by omega) | refine Kept.set ?_ (by omega))))
            by_cases d4 : (57 : Int) < y.toNat
            · simp only [↓STEP, go_sem, ↓reduceIte, Nat.reduceEqDiff, Nat.reduceLeDiff, Nat.reduceLT, Nat.reduceAdd, Nat.reduceSub, Nat.reduceMul, Int.reduceLT, Int.reduceLE, Int.reduceEq, Int.reduceAdd, Int.reduceSub, Int.reduceMul, Int.reduceNeg, Int.reduceToNat, reduceCtorEq, hc, hx, fk, ents_len, a', d1, d2, d3, d4]
              exact Abs.out (by simp [dig]; omega) rfl (by (repeat (first | exact Kept.refl | apply Kept.push | refine Kept.kill ?_ (by omega) | refine Kept.set ?_ (by omega))))
            by_cases d5 : (z.toNat : Int) < 48
            · simp only [↓STEP, go_sem, ↓reduceIte, Nat.reduceEqDiff, Nat.reduceLeDiff, Nat.reduceLT, Nat.reduceAdd, Nat.reduceSub, Nat.reduceMul, Int.reduceLT, Int.reduceLE, Int.reduceEq, Int.reduceAdd, Int.reduceSub, Int.reduceMul, Int.reduceNeg, Int.reduceToNat, reduceCtorEq, hc, hx, fk, ents_len, a', d1, d2, d3, d4, d5]
              exact Abs.out (by simp [dig]; omega) rfl (by (repeat (first | exact Kept.refl | apply Kept.push | refine Kept.kill ?_ (by omega) | refine Kept.set ?_ (by omega))))
            by_cases d6 : (57 : Int) < z.toNat
            · simp only [↓STEP, go_sem, ↓reduceIte, Nat.reduceEqDiff, Nat.reduceLeDiff, Nat.reduceLT, Nat.reduceAdd, Nat.reduceSub, Nat.reduceMul, Int.reduceLT, Int.reduceLE, Int.reduceEq, Int.reduceAdd, Int.reduceSub, Int.reduceMul, Int.reduceNeg, Int.reduceToNat, reduceCtorEq, hc, hx, fk, ents_len, a', d1, d2, d3, d4, d5, d6]
              exact Abs.out (by simp [dig]; omega) rfl (by (repeat (first | exact Kept.refl | apply Kept.push | refine Kept.kill ?_ (by omega) | refine Kept.set ?_ (by omega))))
            · simp only [↓STEP, go_sem, ↓reduceIte, Nat.reduceEqDiff, Nat.reduceLeDiff, Nat.reduceLT, Nat.reduceAdd, Nat.reduceSub, Nat.reduceMul, Int.reduceLT, Int.reduceLE, Int.reduceEq, Int.reduceAdd, Int.reduceSub, Int.reduceMul, Int.reduceNeg, Int.reduceToNat, reduceCtorEq, hc, hx, fk, ents_len, a', d1, d2, d3, d4, d5, d6]
              exact Abs.out (by simp [dig]; omega) rfl (by (repeat (first | exact Kept.refl | apply Kept.push | refine Kept.kill ?_ (by omega) | refine Kept.set ?_ (by omega))))
          | [], hgo =>
            rcases hgo with ⟨hgo, _⟩ | hgo
            · rw [hgo] at fk
              simp only [↓STEP, go_sem, ↓reduceIte, Nat.reduceEqDiff, Nat.reduceLeDiff, Nat.reduceLT, Nat.reduceAdd, Nat.reduceSub, Nat.reduceMul, Int.reduceLT, Int.reduceLE, Int.reduceEq, Int.reduceAdd, Int.reduceSub, Int.reduceMul, Int.reduceNeg, Int.reduceToNat, reduceCtorEq, hc, hx, fk, ents_len, a']
              exact Abs.out rfl rfl (by (repeat (first | exact Kept.refl | apply Kept.push | refine Kept.kill ?_ (by omega) | refine Kept.set ?_ (by omega))))
            · rw [hgo] at fk
              simp only [↓STEP, go_sem, ↓reduceIte, Nat.reduceEqDiff, Nat.reduceLeDiff, Nat.reduceLT, Nat.reduceAdd, Nat.reduceSub, Nat.reduceMul, Int.reduceLT, Int.reduceLE, Int.reduceEq, Int.reduceAdd, Int.reduceSub, Int.reduceMul, Int.reduceNeg, Int.reduceToNat, reduceCtorEq, hc, hx, fk, ents_len, a']
              exact Abs.out rfl rfl (by (repeat (first | exact Kept.refl | apply Kept.push | refine Kept.kill ?_ (by omega) | refine Kept.set ?_ (by omega))))
          | [x], hgo =>
            rcases hgo with ⟨_, h0⟩ | hgo
            · cases h0
            rw [hgo] at fk
            simp only [↓STEP, go_sem, ↓reduceIte, Nat.reduceEqDiff, Nat.reduceLeDiff, Nat.reduceLT, Nat.reduceAdd, Nat.reduceSub, Nat.reduceMul, Int.reduceLT, Int.reduceLE, Int.reduceEq, Int.reduceAdd, Int.reduceSub, Int.reduceMul, Int.reduceNeg, Int.reduceToNat, reduceCtorEq, hc, hx, fk, ents_len, a']
            exact Abs.out rfl rfl (by (repeat (first | exact Kept.refl | apply Kept.push | refine Kept.kill ?_ (by omega) | refine Kept.set ?_ (by omega))))
          | [x, y], hgo =>
            rcases hgo with ⟨_, h0⟩ | hgo
            · cases h0
            rw [hgo] at fk
            simp only [↓STEP, go_sem, ↓reduceIte, Nat.reduceEqDiff, Nat.reduceLeDiff, Nat.reduceLT, Nat.reduceAdd, Nat.reduceSub, Nat.reduceMul, Int.reduceLT, Int.reduceLE, Int.reduceEq, Int.reduceAdd, Int.reduceSub, Int.reduceMul, Int.reduceNeg, Int.reduceToNat, reduceCtorEq, hc, hx, fk, ents_len, a']
            exact Abs.out rfl rfl (by (repeat (first | exact Kept.refl | apply Kept.push | refine Kept.kill ?_ (by omega) | refine Kept.set ?_ (by omega))))
          | x :: y :: z :: w :: r, hgo =>
            rcases hgo with ⟨_, h0⟩ | hgo
            · cases h0
            rw [hgo] at fk
            have hl3 : ¬ ((r.length + 4 : Nat) : Int) = 3 := by omega
            simp only [↓STEP, go_sem, ↓reduceIte, Nat.reduceEqDiff, Nat.reduceLeDiff, Nat.reduceLT, Nat.reduceAdd, Nat.reduceSub, Nat.reduceMul, Int.reduceLT, Int.reduceLE, Int.reduceEq, Int.reduceAdd, Int.reduceSub, Int.reduceMul, Int.reduceNeg, Int.reduceToNat, reduceCtorEq, hc, hx, fk, ents_len, a', hl3]
            exact Abs.out (by simp) rfl (by (repeat (first | exact Kept.refl | apply Kept.push | refine Kept.kill ?_ (by omega) | refine Kept.set ?_ (by omega))))
        cases hl : look m kStatus with
        | none => exact main [] (by simp [getS, hl]) (.inr ⟨hl, rfl⟩)
        | some s => exact main s (by simp [getS, hl]) (.inl hl)
      · have a1 : decide (m.length = 1) = false := decide_eq_false (by omega)
        unfold respP
        rw [a1]
        cases hl : look m kStatus with
        | none =>
          rw [hl] at fk
          simp only [↓STEP, go_sem, ↓reduceIte, Nat.reduceEqDiff, Nat.reduceLeDiff, Nat.reduceLT, Nat.reduceAdd, Nat.reduceSub, Nat.reduceMul, Int.reduceLT, Int.reduceLE, Int.reduceEq, Int.reduceAdd, Int.reduceSub, Int.reduceMul, Int.reduceNeg, Int.reduceToNat, reduceCtorEq, hc, hx, fk, ents_len, a]
          exact Abs.out rfl rfl (by (repeat (first | exact Kept.refl | apply Kept.push | refine Kept.kill ?_ (by omega) | refine Kept.set ?_ (by omega))))
        | some s =>
          rw [hl] at fk
          simp only [↓STEP, go_sem, ↓reduceIte, Nat.reduceEqDiff, Nat.reduceLeDiff, Nat.reduceLT, Nat.reduceAdd, Nat.reduceSub, Nat.reduceMul, Int.reduceLT, Int.reduceLE, Int.reduceEq, Int.reduceAdd, Int.reduceSub, Int.reduceMul, Int.reduceNeg, Int.reduceToNat, reduceCtorEq, hc, hx, fk, ents_len, a]
          exact Abs.out rfl rfl (by (repeat (first | exact Kept.refl | apply Kept.push | refine Kept.kill ?_ (by omega) | refine Kept.set ?_ (by omega))))
    · rename_i hm
      cases hg2
      have hx := gPseudo_none (cap := cap) (ex := ex) hfs hm
      simp only [↓STEP, go_sem, ↓reduceIte, Nat.reduceEqDiff, Nat.reduceLeDiff, Nat.reduceLT, Nat.reduceAdd, Nat.reduceSub, Nat.reduceMul, Int.reduceLT, Int.reduceLE, Int.reduceEq, Int.reduceAdd, Int.reduceSub, Int.reduceMul, Int.reduceNeg, Int.reduceToNat, reduceCtorEq, hc, hx]
      exact Abs.out rfl rfl (by (repeat (first | exact Kept.refl | apply Kept.push | refine Kept.kill ?_ (by omega) | refine Kept.set ?_ (by omega))))
  · cases hg

theorem request_ok {kp kx : Nat} (hp : pr.ext kp = some gPseudo) (hx0 : pr.ext kx = some gPre) : OkF pr (c_field_Request kp kx) (gTell reqP) := by
  intro as h v h' hg
  unfold gTell at hg
  split at hg
  · rename_i p n cap ex
    obtain ⟨fs, hfs, hg2⟩ := Option.bind_eq_some_iff.1 hg
    clear hg
    have hc := @wpCall_ext pr kp _ hp
    have hcx := @wpCall_ext pr kx _ hx0
    unfold wpF c_field_Request
    refine ⟨by simp, ?_⟩
    split at hg2
    · rename_i m hm
      cases hg2
      have hx := gPseudo_some (cap := cap) (ex := ex) hfs hm
      have f1 := findKey_ents kMethod m
      have f2 := findKey_ents kScheme m
      have f3 := findKey_ents kAuth m
      have f4 := findKey_ents kPath m
      have xp : ∀ (s : List UInt8) g', gPre [.s s, .s [47]] g' = some (.b (preSl s), g') := fun s g' => rfl
      cases l1 : look m kMethod with
      | none =>
        rw [l1] at f1
        simp only [↓STEP, go_sem, ↓reduceIte, Nat.reduceEqDiff, Nat.reduceLeDiff, Nat.reduceLT, Nat.reduceAdd, Nat.reduceSub, Nat.reduceMul, Int.reduceLT, Int.reduceLE, Int.reduceEq, Int.reduceAdd, Int.reduceSub, Int.reduceMul, Int.reduceNeg, Int.reduceToNat, reduceCtorEq, hc, hx, f1]
        exact Abs.out (by simp [reqP, getS, l1]) rfl (by (repeat (first | exact Kept.refl | apply Kept.push | refine Kept.kill ?_ (by omega) | refine Kept.set ?_ (by omega))))
      | some s1 =>
      rw [l1] at f1
      by_cases e1 : s1 = []
      · subst e1
        simp only [↓STEP, go_sem, ↓reduceIte, Nat.reduceEqDiff, Nat.reduceLeDiff, Nat.reduceLT, Nat.reduceAdd, Nat.reduceSub, Nat.reduceMul, Int.reduceLT, Int.reduceLE, Int.reduceEq, Int.reduceAdd, Int.reduceSub, Int.reduceMul, Int.reduceNeg, Int.reduceToNat, reduceCtorEq, hc, hx, f1]
        exact Abs.out (by simp [reqP, getS, l1]) rfl (by (repeat (first | exact Kept.refl | apply Kept.push | refine Kept.kill ?_ (by omega) | refine Kept.set ?_ (by omega))))
      cases l2 : look m kScheme with
      | none =>
        rw [l2] at f2
        simp only [↓STEP, go_sem, ↓reduceIte, Nat.reduceEqDiff, Nat.reduceLeDiff, Nat.reduceLT, Nat.reduceAdd, Nat.reduceSub, Nat.reduceMul, Int.reduceLT, Int.reduceLE, Int.reduceEq, Int.reduceAdd, Int.reduceSub, Int.reduceMul, Int.reduceNeg, Int.reduceToNat, reduceCtorEq, hc, hx, f1, e1, f2]
        exact Abs.out (by simp [reqP, getS, l2]) rfl (by (repeat (first | exact Kept.refl | apply Kept.push | refine Kept.kill ?_ (by omega) | refine Kept.set ?_ (by omega))))
      | some s2 =>
      rw [l2] at f2
      by_cases e2 : s2 = []
      · subst e2
        simp only [↓STEP, go_sem, ↓reduceIte, Nat.reduceEqDiff, Nat.reduceLeDiff, Nat.reduceLT, Nat.reduceAdd, Nat.reduceSub, Nat.reduceMul, Int.reduceLT, Int.reduceLE, Int.reduceEq, Int.reduceAdd, Int.reduceSub, Int.reduceMul, Int.reduceNeg, Int.reduceToNat, reduceCtorEq, hc, hx, f1, e1, f2]
        exact Abs.out (by simp [reqP, getS, l2]) rfl (by (repeat (first | exact Kept.refl | apply Kept.push | refine Kept.kill ?_ (by omega) | refine Kept.set ?_ (by omega))))
      have fin : ∀ (k : Nat) (s4 : List UInt8), (look m kAuth).isSome = decide (k = 4) → (k = 3 ∨ k = 4) → getS m kPath = s4 → reqP m = (decide (m.length = k) && (preSl s4 || decide (s4 = [42]))) := by
        intro k s4 h1 h2 h3
        unfold reqP
        rw [h3, h1]
        have a1 : getS m kMethod = s1 := by simp [getS, l1]
        have a2 : getS m kScheme = s2 := by simp [getS, l2]
        rw [a1, a2]
        rcases h2 with rfl | rfl <;> simp [e1, e2]
      cases l3 : look m kAuth with
      | none =>
        rw [l3] at f3
        cases l4 : look m kPath with
        | none =>
          rw [l4] at f4
          have fn := fin 3 [] (by rw [l3]; rfl) (.inl rfl) (by simp [getS, l4])
          by_cases a : (m.length : Int) = 3
          · have a' := eq_true a
            cases b : preSl [] <;> simp only [↓STEP, go_sem, ↓reduceIte, Nat.reduceEqDiff, Nat.reduceLeDiff, Nat.reduceLT, Nat.reduceAdd, Nat.reduceSub, Nat.reduceMul, Int.reduceLT, Int.reduceLE, Int.reduceEq, Int.reduceAdd, Int.reduceSub, Int.reduceMul, Int.reduceNeg, Int.reduceToNat, reduceCtorEq, hc, hx, f1, e1, f2, e2, f3, f4, ents_len, a', hcx, xp, b]
            · exact Abs.out (by rw [fn, b]; simp) rfl (by (repeat (first | exact Kept.refl | apply Kept.push | refine Kept.kill ?_ (by omega) | refine Kept.set ?_ (by omega))))
            · exact Abs.out (by rw [fn, b, decide_eq_true (by omega)]; rfl) rfl (by (repeat (first | exact Kept.refl | apply Kept.push | refine Kept.kill ?_ (by omega) | refine Kept.set ?_ (by omega))))
          · simp only [↓STEP, go_sem, ↓reduceIte, Nat.reduceEqDiff, Nat.reduceLeDiff, Nat.reduceLT, Nat.reduceAdd, Nat.reduceSub, Nat.reduceMul, Int.reduceLT, Int.reduceLE, Int.reduceEq, Int.reduceAdd, Int.reduceSub, Int.reduceMul, Int.reduceNeg, Int.reduceToNat, reduceCtorEq, hc, hx, f1, e1, f2, e2, f3, f4, ents_len, a]
            exact Abs.out (by rw [fn, decide_eq_false (by omega)]; rfl) rfl (by (repeat (first | exact Kept.refl | apply Kept.push | refine Kept.kill ?_ (by omega) | refine Kept.set ?_ (by omega))))
        | some s4 =>
          rw [l4] at f4
          have fn := fin 3 s4 (by rw [l3]; rfl) (.inl rfl) (by simp [getS, l4])
          by_cases a : (m.length : Int) = 3
          · have a' := eq_true a
            cases b : preSl s4
            · by_cases c : s4 = [42]
              · have c' := eq_true c
                simp only [↓STEP, go_sem, ↓reduceIte, Nat.reduceEqDiff, Nat.reduceLeDiff, Nat.reduceLT, Nat.reduceAdd, Nat.reduceSub, Nat.reduceMul, Int.reduceLT, Int.reduceLE, Int.reduceEq, Int.reduceAdd, Int.reduceSub, Int.reduceMul, Int.reduceNeg, Int.reduceToNat, reduceCtorEq, hc, hx, f1, e1, f2, e2, f3, f4, ents_len, a', hcx, xp, b, c']
                exact Abs.out (by rw [fn, decide_eq_true (by omega), decide_eq_true c]; simp) rfl (by (repeat (first | exact Kept.refl | apply Kept.push | refine Kept.kill ?_ (by omega) | refine Kept.set ?_ (by omega))))
              · simp only [↓STEP, go_sem, ↓reduceIte, Nat.reduceEqDiff, Nat.reduceLeDiff, Nat.reduceLT, Nat.reduceAdd, Nat.reduceSub, Nat.reduceMul, Int.reduceLT, Int.reduceLE, Int.reduceEq, Int.reduceAdd, Int.reduceSub, Int.reduceMul, Int.reduceNeg, Int.reduceToNat, reduceCtorEq, hc, hx, f1, e1, f2, e2, f3, f4, ents_len, a', hcx, xp, b, c]
                exact Abs.out (by rw [fn, b, decide_eq_false c]; simp) rfl (by (repeat (first | exact Kept.refl | apply Kept.push | refine Kept.kill ?_ (by omega) | refine Kept.set ?_ (by omega))))
            · simp only [↓STEP, go_sem, ↓reduceIte, Nat.reduceEqDiff, Nat.reduceLeDiff, Nat.reduceLT, Nat.reduceAdd, Nat.reduceSub, Nat.reduceMul, Int.reduceLT, Int.reduceLE, Int.reduceEq, Int.reduceAdd, Int.reduceSub, Int.reduceMul, Int.reduceNeg, Int.reduceToNat, reduceCtorEq, hc, hx, f1, e1, f2, e2, f3, f4, ents_len, a', hcx, xp, b]
              exact Abs.out (by rw [fn, b, decide_eq_true (by omega)]; rfl) rfl (by (repeat (first | exact Kept.refl | apply Kept.push | refine Kept.kill ?_ (by omega) | refine Kept.set ?_ (by omega))))
          · simp only [↓STEP, go_sem, ↓reduceIte, Nat.reduceEqDiff, Nat.reduceLeDiff, Nat.reduceLT, Nat.reduceAdd, Nat.reduceSub, Nat.reduceMul, Int.reduceLT, Int.reduceLE, Int.reduceEq, Int.reduceAdd, Int.reduceSub, Int.reduceMul, Int.reduceNeg, Int.reduceToNat, reduceCtorEq, hc, hx, f1, e1, f2, e2, f3, f4, ents_len, a]
            exact Abs.out (by rw [fn, decide_eq_false (by omega)]; rfl) rfl (by (repeat (first | exact Kept.refl | apply Kept.push | refine Kept.kill ?_ (by omega) | refine Kept.set ?_ (by omega))))
      | some s3 =>
        rw [l3] at f3
        cases l4 : look m kPath with
        | none =>
          rw [l4] at f4
          have fn := fin 4 [] (by rw [l3]; rfl) (.inr rfl) (by simp [getS, l4])
          by_cases a : (m.length : Int) = 4
          · have a' := eq_true a
            cases b : preSl [] <;> simp only [↓STEP, go_sem, ↓reduceIte, Nat.reduceEqDiff, Nat.reduceLeDiff, Nat.reduceLT, Nat.reduceAdd, Nat.reduceSub, Nat.reduceMul, Int.reduceLT, Int.reduceLE, Int.reduceEq, Int.reduceAdd, Int.reduceSub, Int.reduceMul, Int.reduceNeg, Int.reduceToNat, reduceCtorEq, hc, hx, f1, e1, f2, e2, f3, f4, ents_len, a', hcx, xp, b]
            · exact Abs.out (by rw [fn, b]; simp) rfl (by (repeat (first | exact Kept.refl | apply Kept.push | refine Kept.kill ?_ (by omega) | refine Kept.set ?_ (by omega))))
            · exact Abs.out (by rw [fn, b, decide_eq_true (by omega)]; rfl) rfl (by (repeat (first | exact Kept.refl | apply Kept.push | refine Kept.kill ?_ (by omega) | refine Kept.set ?_ (by omega))))
          · simp only [↓STEP, go_sem, ↓reduceIte, Nat.reduceEqDiff, Nat.reduceLeDiff, Nat.reduceLT, Nat.reduceAdd, Nat.reduceSub, Nat.reduceMul, Int.reduceLT, Int.reduceLE, Int.reduceEq, Int.reduceAdd, Int.reduceSub, Int.reduceMul, Int.reduceNeg, Int.reduceToNat, reduceCtorEq, hc, hx, f1, e1, f2, e2, f3, f4, ents_len, a]
            exact Abs.out (by rw [fn, decide_eq_false (by omega)]; rfl) rfl (by (repeat (first | exact Kept.refl | apply Kept.push | refine Kept.kill ?_ (by omega) | refine Kept.set ?_ (by omega))))
        | some s4 =>
          rw [l4] at f4
          have fn := fin 4 s4 (by rw [l3]; rfl) (.inr rfl) (by simp [getS, l4])
          by_cases a : (m.length : Int) = 4
          · have a' := eq_true a
            cases b : preSl s4
            · by_cases c : s4 = [42]
              · have c' := eq_true c
                simp only [↓STEP, go_sem, ↓reduceIte, Nat.reduceEqDiff, Nat.reduceLeDiff, Nat.reduceLT, Nat.reduceAdd, Nat.reduceSub, Nat.reduceMul, Int.reduceLT, Int.reduceLE, Int.reduceEq, Int.reduceAdd, Int.reduceSub, Int.reduceMul, Int.reduceNeg, Int.reduceToNat, reduceCtorEq, hc, hx, f1, e1, f2, e2, f3, f4, ents_len, a', hcx, xp, b, c']
                exact Abs.out (by rw [fn, decide_eq_true (by omega), decide_eq_true c]; simp) rfl (by (repeat (first | exact Kept.refl | apply Kept.push | refine Kept.kill ?_ (by omega) | refine Kept.set ?_ (by omega))))
              · simp only [↓STEP, go_sem, ↓reduceIte, Nat.reduceEqDiff, Nat.reduceLeDiff, Nat.reduceLT, Nat.reduceAdd, Nat.reduceSub, Nat.reduceMul, Int.reduceLT, Int.reduceLE, Int.reduceEq, Int.reduceAdd, Int.reduceSub, Int.reduceMul, Int.reduceNeg, Int.reduceToNat, reduceCtorEq, hc, hx, f1, e1, f2, e2, f3, f4, ents_len, a', hcx, xp, b, c]
                exact Abs.out (by rw [fn, b, decide_eq_false c]; simp) rfl (by (repeat (first | exact Kept.refl | apply Kept.push | refine Kept.kill ?_ (by omega) | refine Kept.set ?_ (by omega))))
            · simp only [↓STEP, go_sem, ↓reduceIte, Nat.reduceEqDiff, Nat.reduceLeDiff, Nat.reduceLT, Nat.reduceAdd, Nat.reduceSub, Nat.reduceMul, Int.reduceLT, Int.reduceLE, Int.reduceEq, Int.reduceAdd, Int.reduceSub, Int.reduceMul, Int.reduceNeg, Int.reduceToNat, reduceCtorEq, hc, hx, f1, e1, f2, e2, f3, f4, ents_len, a', hcx, xp, b]
              exact Abs.out (by rw [fn, b, decide_eq_true (by omega)]; rfl) rfl (by (repeat (first | exact Kept.refl | apply Kept.push | refine Kept.kill ?_ (by omega) | refine Kept.set ?_ (by omega))))
          · simp only [↓STEP, go_sem, ↓reduceIte, Nat.reduceEqDiff, Nat.reduceLeDiff, Nat.reduceLT, Nat.reduceAdd, Nat.reduceSub, Nat.reduceMul, Int.reduceLT, Int.reduceLE, Int.reduceEq, Int.reduceAdd, Int.reduceSub, Int.reduceMul, Int.reduceNeg, Int.reduceToNat, reduceCtorEq, hc, hx, f1, e1, f2, e2, f3, f4, ents_len, a]
            exact Abs.out (by rw [fn, decide_eq_false (by omega)]; rfl) rfl (by (repeat (first | exact Kept.refl | apply Kept.push | refine Kept.kill ?_ (by omega) | refine Kept.set ?_ (by omega))))
    · rename_i hm
      cases hg2
      have hx := gPseudo_none (cap := cap) (ex := ex) hfs hm
      simp only [↓STEP, go_sem, ↓reduceIte, Nat.reduceEqDiff, Nat.reduceLeDiff, Nat.reduceLT, Nat.reduceAdd, Nat.reduceSub, Nat.reduceMul, Int.reduceLT, Int.reduceLE, Int.reduceEq, Int.reduceAdd, Int.reduceSub, Int.reduceMul, Int.reduceNeg, Int.reduceToNat, reduceCtorEq, hc, hx]
      exact Abs.out rfl rfl (by (repeat (first | exact Kept.refl | apply Kept.push | refine Kept.kill ?_ (by omega) | refine Kept.set ?_ (by omega))))
  · cases hg

/-! ### Sizes -/
def sizeF : Int → List Fd → Int
  | n, [] => n
  | n, f :: fs => sizeF (Go.IntKind.wrap .i64 (n + Go.IntKind.wrap .i64 (Go.IntKind.wrap .i64 ((f.n.length : Int) + f.v.length) + 32))) fs
noncomputable def gSize (as : List V) (h : H) : Option (V × H) :=
  match as with
  | [.sl p n cap ex] => (readRows Fd.row h 3 p n).bind fun fs => some (.i .i64 (sizeF 0 fs), h)
  | _ => none
def SizeLoop (h : H) (fs : List Fd) (p : Option (Nat × Nat)) (cap : Nat) (ex : Bool) (k : Nat) (t : Tm) (g : H) : Prop :=
  ∃ (i : Nat) (n : Int), k = fs.length - i ∧ i ≤ fs.length ∧ t.v 8 = .i .i64 i ∧ t.v 7 = .i .i64 fs.length ∧ t.v 6 = .sl p fs.length cap ex ∧ t.v 3 = .i .i64 n ∧ Kept h g ∧ sizeF n (fs.drop i) = sizeF 0 fs
theorem size_ok : OkF pr c_field_Size gSize := by
  intro as h v h' hg
  unfold gSize at hg
  split at hg
  · rename_i p n cap ex
    obtain ⟨fs, hfs, hg2⟩ := Option.bind_eq_some_iff.1 hg
    clear hg
    obtain ⟨⟨hlen, hrows⟩, hn63⟩ := readRows_spec hfs
    rw [List.length_map] at hlen
    subst hlen
    cases hg2
    unfold wpF c_field_Size
    refine ⟨by simp, ?_⟩
    simp only [↓STEP, go_sem, ↓reduceIte, Nat.reduceEqDiff, Nat.reduceLeDiff, Nat.reduceLT, Nat.reduceAdd, Nat.reduceSub, Nat.reduceMul, Int.reduceLT, Int.reduceLE, Int.reduceEq, Int.reduceAdd, Int.reduceSub, Int.reduceMul, Int.reduceNeg, Int.reduceToNat, reduceCtorEq]
    refine wpA_loop_inv (SizeLoop h fs p cap ex) ?_ (m := fs.length) ?_
    · rintro k t g ⟨i, n, rfl, hi, e8, e7, e6, e3, hk, hs⟩
      by_cases hlt : i < fs.length
      · have hlt' : (i : Int) < (fs.length : Int) := by omega
        obtain ⟨bb, r, all, ro, rfl, hbb, hgb, hat⟩ := hrows.resolve_left (by omega)
        have hgb' : g.get bb = some (.rows 3 all ro) := by rw [hk.2 bb hbb]; exact hgb
        have hrw : all[r + i]? = some [.s fs[i].n, .s fs[i].v, .b fs[i].z] := hat i _ (by rw [List.getElem?_map, List.getElem?_eq_getElem hlt]; rfl)
        have hwr : Go.IntKind.wrap .i64 ((i : Int) + 1) = (i : Int) + 1 := wrap_i64 (by omega) (by omega)
        have hd : fs.drop i = fs[i] :: fs.drop (i + 1) := List.drop_eq_getElem_cons hlt
        rw [hd, sizeF] at hs
        simp only [↓STEP, go_sem, ↓reduceIte, Nat.reduceEqDiff, Nat.reduceLeDiff, Nat.reduceLT, Nat.reduceAdd, Nat.reduceSub, Nat.reduceMul, Int.reduceLT, Int.reduceLE, Int.reduceEq, Int.reduceAdd, Int.reduceSub, Int.reduceMul, Int.reduceNeg, Int.reduceToNat, reduceCtorEq, e8, e7, e6, e3, hgb', hrw, hlt', hwr]
        exact ⟨_, by omega, i + 1, _, rfl, by omega, by simp [v_pd, v_pd0], by simp [v_pd, v_pd0, e7], by simp [v_pd, v_pd0, e6], by simp only [v_pd, v_pd0, Nat.reduceEqDiff, if_true, if_false, ↓reduceIte], (hk.push).set hk.1, hs⟩
      · have hlt' : ¬ (i : Int) < (fs.length : Int) := by omega
        have : i = fs.length := by omega
        rw [this, List.drop_length, sizeF] at hs
        simp only [↓STEP, go_sem, ↓reduceIte, Nat.reduceEqDiff, Nat.reduceLeDiff, Nat.reduceLT, Nat.reduceAdd, Nat.reduceSub, Nat.reduceMul, Int.reduceLT, Int.reduceLE, Int.reduceEq, Int.reduceAdd, Int.reduceSub, Int.reduceMul, Int.reduceNeg, Int.reduceToNat, reduceCtorEq, e8, e7, e6, e3, hlt']
        exact Abs.out (by rw [hs]) rfl hk
    · exact ⟨0, 0, rfl, Nat.zero_le _, by simp only [↓STEP, go_sem, ↓reduceIte, Nat.reduceEqDiff, Nat.reduceLeDiff, Nat.reduceLT, Nat.reduceAdd, Nat.reduceSub, Nat.reduceMul, Int.reduceLT, Int.reduceLE, Int.reduceEq, Int.reduceAdd, Int.reduceSub, Int.reduceMul, Int.reduceNeg, Int.reduceToNat, reduceCtorEq], by simp only [↓STEP, go_sem, ↓reduceIte, Nat.reduceEqDiff, Nat.reduceLeDiff, Nat.reduceLT, Nat.reduceAdd, Nat.reduceSub, Nat.reduceMul, Int.reduceLT, Int.reduceLE, Int.reduceEq, Int.reduceAdd, Int.reduceSub, Int.reduceMul, Int.reduceNeg, Int.reduceToNat, reduceCtorEq], by simp only [↓STEP, go_sem, ↓reduceIte, Nat.reduceEqDiff, Nat.reduceLeDiff, Nat.reduceLT, Nat.reduceAdd, Nat.reduceSub, Nat.reduceMul, Int.reduceLT, Int.reduceLE, Int.reduceEq, Int.reduceAdd, Int.reduceSub, Int.reduceMul, Int.reduceNeg, Int.reduceToNat, reduceCtorEq], by simp only [↓STEP, go_sem, ↓reduceIte, Nat.reduceEqDiff, Nat.reduceLeDiff, Nat.reduceLT, Nat.reduceAdd, Nat.reduceSub, Nat.reduceMul, Int.reduceLT, Int.reduceLE, Int.reduceEq, Int.reduceAdd, Int.reduceSub, Int.reduceMul, Int.reduceNeg, Int.reduceToNat, reduceCtorEq], Kept.refl, rfl⟩
  · cases hg
end Am
