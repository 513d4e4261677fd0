/- What the functions of the layer 'field' answer: requests, responses, trailers. -/
import Derived.Test.YtibmhhdgcbaofaaDoorField6
namespace Am
set_option linter.unusedVariables false
set_option linter.unusedSimpArgs false
set_option maxRecDepth 20000
set_option maxHeartbeats 8000000
variable {pr : Prog}

def getS (m : PM) (k : List UInt8) : List UInt8 := (look m k).getD []
abbrev kMethod : List UInt8 := [58, 109, 101, 116, 104, 111, 100]
abbrev kScheme : List UInt8 := [58, 115, 99, 104, 101, 109, 101]
abbrev kAuth : List UInt8 := [58, 97, 117, 116, 104, 111, 114, 105, 116, 121]
abbrev kPath : List UInt8 := [58, 112, 97, 116, 104]
def preSl (l : List UInt8) : Bool := decide (([47] : List UInt8).length ≤ l.length ∧ l.take ([47] : List UInt8).length = [47])
def reqP (m : PM) : Bool := !decide (getS m kMethod = []) && !decide (getS m kScheme = []) && decide (m.length = if (look m kAuth).isSome then 4 else 3) && (preSl (getS m kPath) || decide (getS m kPath = [42]))
noncomputable def gTell (P : PM → Bool) (as : List V) (h : H) : Option (V × H) :=
  match as with
  | [.sl p n cap ex] => (readRows Fd.row h 3 p n).bind fun fs => match psF [] false fs with
    | some m => some (.i .i64 (if P m = true then 0 else 5), h)
    | none => some (.i .i64 5, h)
  | _ => none
theorem gPseudo_some {h : H} {p : Option (Nat × Nat)} {n cap : Nat} {ex : Bool} {fs : List Fd} {m : PM} (hr : readRows Fd.row h 3 p n = some fs) (hm : psF [] false fs = some m) : gPseudo [.sl p n cap ex] h = some (.tup [.m (some h.nx), .b true], h.push (.map (ents m))) := by
  simp only [gPseudo, hr, Option.bind_some, hm]
theorem gPseudo_none {h : H} {p : Option (Nat × Nat)} {n cap : Nat} {ex : Bool} {fs : List Fd} (hr : readRows Fd.row h 3 p n = some fs) (hm : psF [] false fs = none) : gPseudo [.sl p n cap ex] h = some (.tup [.m none, .b false], h) := by
  simp only [gPseudo, hr, Option.bind_some, hm]

theorem request_ok {kp kx : Nat} (hp : pr.ext kp = some gPseudo) (hx0 : pr.ext kx = some gPre) : OkF pr (c_field_Request kp kx) (gTell reqP) := by
  intro as h v h' hg
  unfold gTell at hg
  split at hg
  · rename_i p n cap ex
    obtain ⟨fs, hfs, hg2⟩ := Option.bind_eq_some_iff.1 hg
    clear hg
    have hc := @wpCall_ext pr kp _ hp
    have hcx := @wpCall_ext pr kx _ hx0
    unfold wpF c_field_Request
    refine ⟨by simp, ?_⟩
    split at hg2
    · rename_i m hm
      cases hg2
      have hx := gPseudo_some (cap := cap) (ex := ex) hfs hm
      have f1 := findKey_ents kMethod m
      have f2 := findKey_ents kScheme m
      have f3 := findKey_ents kAuth m
      have f4 := findKey_ents kPath m
      have xp : ∀ (s : List UInt8) g', gPre [.s s, .s [47]] g' = some (.b (preSl s), g') := fun s g' => rfl
      cases l1 : look m kMethod with
      | none =>
        rw [l1] at f1
        simp only [↓STEP, go_sem, ↓reduceIte, Nat.reduceEqDiff, Nat.reduceLeDiff, Nat.reduceLT, Nat.reduceAdd, Nat.reduceSub, Nat.reduceMul, Int.reduceLT, Int.reduceLE, Int.reduceEq, Int.reduceAdd, Int.reduceSub, Int.reduceMul, Int.reduceNeg, Int.reduceToNat, reduceCtorEq, hc, hx, f1]
        exact Abs.out (by simp [reqP, getS, l1]) rfl (by (repeat (first | exact Kept.refl | apply Kept.push | refine Kept.kill ?_ (by omega) | refine Kept.set ?_ (by omega))))
      | some s1 =>
      rw [l1] at f1
      by_cases e1 : s1 = []
      · subst e1
        simp only [↓STEP, go_sem, ↓reduceIte, Nat.reduceEqDiff, Nat.reduceLeDiff, Nat.reduceLT, Nat.reduceAdd, Nat.reduceSub, Nat.reduceMul, Int.reduceLT, Int.reduceLE, Int.reduceEq, Int.reduceAdd, Int.reduceSub, Int.reduceMul, Int.reduceNeg, Int.reduceToNat, reduceCtorEq, hc, hx, f1]
        exact Abs.out (by simp [reqP, getS, l1]) rfl (by (repeat (first | exact Kept.refl | apply Kept.push | refine Kept.kill ?_ (by omega) | refine Kept.set ?_ (by omega))))
      cases l2 : look m kScheme with
      | none =>
        rw [l2] at f2
        simp only [↓STEP, go_sem, ↓reduceIte, Nat.reduceEqDiff, Nat.reduceLeDiff, Nat.reduceLT, Nat.reduceAdd, Nat.reduceSub, Nat.reduceMul, Int.reduceLT, Int.reduceLE, Int.reduceEq, Int.reduceAdd, Int.reduceSub, Int.reduceMul, Int.reduceNeg, Int.reduceToNat, reduceCtorEq, hc, hx, f1, e1, f2]
        exact Abs.out (by simp [reqP, getS, l2]) rfl (by (repeat (first | exact Kept.refl | apply Kept.push | refine Kept.kill ?_ (by omega) | refine Kept.set ?_ (by omega))))
      | some s2 =>
      rw [l2] at f2
      by_cases e2 : s2 = []
      · subst e2
        simp only [↓STEP, go_sem, ↓reduceIte, Nat.reduceEqDiff, Nat.reduceLeDiff, Nat.reduceLT, Nat.reduceAdd, Nat.reduceSub, Nat.reduceMul, Int.reduceLT, Int.reduceLE, Int.reduceEq, Int.reduceAdd, Int.reduceSub, Int.reduceMul, Int.reduceNeg, Int.reduceToNat, reduceCtorEq, hc, hx, f1, e1, f2]
        exact Abs.out (by simp [reqP, getS, l2]) rfl (by (repeat (first | exact Kept.refl | apply Kept.push | refine Kept.kill ?_ (by omega) | refine Kept.set ?_ (by omega))))
      have fin : ∀ (k : Nat) (s4 : List UInt8), (look m kAuth).isSome = decide (k = 4) → (k = 3 ∨ k = 4) → getS m kPath = s4 → reqP m = (decide (m.length = k) && (preSl s4 || decide (s4 = [42]))) := by
        intro k s4 h1 h2 h3
        unfold reqP
        rw [h3, h1]
        have a1 : getS m kMethod = s1 := by simp [getS, l1]
        have a2 : getS m kScheme = s2 := by simp [getS, l2]
        rw [a1, a2]
        rcases h2 with rfl | rfl <;> simp [e1, e2]
      cases l3 : look m kAuth with
      | none =>
        rw [l3] at f3
        cases l4 : look m kPath with
        | none =>
          rw [l4] at f4
          have fn := fin 3 [] (by rw [l3]; rfl) (.inl rfl) (by simp [getS, l4])
          by_cases a : (m.length : Int) = 3
          · have a' := eq_true a
            cases b : preSl [] <;> simp only [↓STEP, go_sem, ↓reduceIte, Nat.reduceEqDiff, Nat.reduceLeDiff, Nat.reduceLT, Nat.reduceAdd, Nat.reduceSub, Nat.reduceMul, Int.reduceLT, Int.reduceLE, Int.reduceEq, Int.reduceAdd, Int.reduceSub, Int.reduceMul, Int.reduceNeg, Int.reduceToNat, reduceCtorEq, hc, hx, f1, e1, f2, e2, f3, f4, ents_len, a', hcx, xp, b]
            · exact Abs.out (by rw [fn, b]; simp) rfl (by (repeat (first | exact Kept.refl | apply Kept.push | refine Kept.kill ?_ (by omega) | refine Kept.set ?_ (by omega))))
            · exact Abs.out (by rw [fn, b, decide_eq_true (by omega)]; rfl) rfl (by (repeat (first | exact Kept.refl | apply Kept.push | refine Kept.kill ?_ (by omega) | refine Kept.set ?_ (by omega))))
          · simp only [↓STEP, go_sem, ↓reduceIte, Nat.reduceEqDiff, Nat.reduceLeDiff, Nat.reduceLT, Nat.reduceAdd, Nat.reduceSub, Nat.reduceMul, Int.reduceLT, Int.reduceLE, Int.reduceEq, Int.reduceAdd, Int.reduceSub, Int.reduceMul, Int.reduceNeg, Int.reduceToNat, reduceCtorEq, hc, hx, f1, e1, f2, e2, f3, f4, ents_len, a]
            exact Abs.out (by rw [fn, decide_eq_false (by omega)]; rfl) rfl (by (repeat (first | exact Kept.refl | apply Kept.push | refine Kept.kill ?_ (by omega) | refine Kept.set ?_ (by omega))))
        | some s4 =>
          rw [l4] at f4
          have fn := fin 3 s4 (by rw [l3]; rfl) (.inl rfl) (by simp [getS, l4])
          by_cases a : (m.length : Int) = 3
          · have a' := eq_true a
            cases b : preSl s4
            · by_cases c : s4 = [42]
              · have c' := eq_true c
                simp only [↓STEP, go_sem, ↓reduceIte, Nat.reduceEqDiff, Nat.reduceLeDiff, Nat.reduceLT, Nat.reduceAdd, Nat.reduceSub, Nat.reduceMul, Int.reduceLT, Int.reduceLE, Int.reduceEq, Int.reduceAdd, Int.reduceSub, Int.reduceMul, Int.reduceNeg, Int.reduceToNat, reduceCtorEq, hc, hx, f1, e1, f2, e2, f3, f4, ents_len, a', hcx, xp, b, c']
                exact Abs.out (by rw [fn, decide_eq_true (by omega), decide_eq_true c]; simp) rfl (by (repeat (first | exact Kept.refl | apply Kept.push | refine Kept.kill ?_ (by omega) | refine Kept.set ?_ (by omega))))
              · simp only [↓STEP, go_sem, ↓reduceIte, Nat.reduceEqDiff, Nat.reduceLeDiff, Nat.reduceLT, Nat.reduceAdd, Nat.reduceSub, Nat.reduceMul, Int.reduceLT, Int.reduceLE, Int.reduceEq, Int.reduceAdd, Int.reduceSub, Int.reduceMul, Int.reduceNeg, Int.reduceToNat, reduceCtorEq, hc, hx, f1, e1, f2, e2, f3, f4, ents_len, a', hcx, xp, b, c]
                exact Abs.out (by rw [fn, b, decide_eq_false c]; simp) rfl (by (repeat (first | exact Kept.refl | apply Kept.push | refine Kept.kill ?_ (by omega) | refine Kept.set ?_ (by omega))))
            · simp only [↓STEP, go_sem, ↓reduceIte, Nat.reduceEqDiff, Nat.reduceLeDiff, Nat.reduceLT, Nat.reduceAdd, Nat.reduceSub, Nat.reduceMul, Int.reduceLT, Int.reduceLE, Int.reduceEq, Int.reduceAdd, Int.reduceSub, Int.reduceMul, Int.reduceNeg, Int.reduceToNat, reduceCtorEq, hc, hx, f1, e1, f2, e2, f3, f4, ents_len, a', hcx, xp, b]
              exact Abs.out (by rw [fn, b, decide_eq_true (by omega)]; rfl) rfl (by (repeat (first | exact Kept.refl | apply Kept.push | refine Kept.kill ?_ (by omega) | refine Kept.set ?_ (by omega))))
          · simp only [↓STEP, go_sem, ↓reduceIte, Nat.reduceEqDiff, Nat.reduceLeDiff, Nat.reduceLT, Nat.reduceAdd, Nat.reduceSub, Nat.reduceMul, Int.reduceLT, Int.reduceLE, Int.reduceEq, Int.reduceAdd, Int.reduceSub, Int.reduceMul, Int.reduceNeg, Int.reduceToNat, reduceCtorEq, hc, hx, f1, e1, f2, e2, f3, f4, ents_len, a]
            exact Abs.out (by rw [fn, decide_eq_false (by omega)]; rfl) rfl (by (repeat (first | exact Kept.refl | apply Kept.push | refine Kept.kill ?_ (by omega) | refine Kept.set ?_ (by omega))))
      | some s3 =>
        rw [l3] at f3
        cases l4 : look m kPath with
        | none =>
          rw [l4] at f4
          have fn := fin 4 [] (by rw [l3]; rfl) (.inr rfl) (by simp [getS, l4])
          by_cases a : (m.length : Int) = 4
          · have a' := eq_true a
            cases b : preSl [] <;> simp only [↓STEP, go_sem, ↓reduceIte, Nat.reduceEqDiff, Nat.reduceLeDiff, Nat.reduceLT, Nat.reduceAdd, Nat.reduceSub, Nat.reduceMul, Int.reduceLT, Int.reduceLE, Int.reduceEq, Int.reduceAdd, Int.reduceSub, Int.reduceMul, Int.reduceNeg, Int.reduceToNat, reduceCtorEq, hc, hx, f1, e1, f2, e2, f3, f4, ents_len, a', hcx, xp, b]
            · exact Abs.out (by rw [fn, b]; simp) rfl (by (repeat (first | exact Kept.refl | apply Kept.push | refine Kept.kill ?_ (by omega) | refine Kept.set ?_ (by omega))))
            · exact Abs.out (by rw [fn, b, decide_eq_true (by omega)]; rfl) rfl (by (repeat (first | exact Kept.refl | apply Kept.push | refine Kept.kill ?_ (by omega) | refine Kept.set ?_ (by omega))))
          · simp only [↓STEP, go_sem, ↓reduceIte, Nat.reduceEqDiff, Nat.reduceLeDiff, Nat.reduceLT, Nat.reduceAdd, Nat.reduceSub, Nat.reduceMul, Int.reduceLT, Int.reduceLE, Int.reduceEq, Int.reduceAdd, Int.reduceSub, Int.reduceMul, Int.reduceNeg, Int.reduceToNat, reduceCtorEq, hc, hx, f1, e1, f2, e2, f3, f4, ents_len, a]
            exact Abs.out (by rw [fn, decide_eq_false (by omega)]; rfl) rfl (by (repeat (first | exact Kept.refl | apply Kept.push | refine Kept.kill ?_ (by omega) | refine Kept.set ?_ (by omega))))
        | some s4 =>
          rw [l4] at f4
          have fn := fin 4 s4 (by rw [l3]; rfl) (.inr rfl) (by simp [getS, l4])
          by_cases a : (m.length : Int) = 4
          · have a' := eq_true a
            cases b : preSl s4
            · by_cases c : s4 = [42]
              · have c' := eq_true c
                simp only [↓STEP, go_sem, ↓reduceIte, Nat.reduceEqDiff, Nat.reduceLeDiff, Nat.reduceLT, Nat.reduceAdd, Nat.reduceSub, Nat.reduceMul, Int.reduceLT, Int.reduceLE, Int.reduceEq, Int.reduceAdd, Int.reduceSub, Int.reduceMul, Int.reduceNeg, Int.reduceToNat, reduceCtorEq, hc, hx, f1, e1, f2, e2, f3, f4, ents_len, a', hcx, xp, b, c']
                exact Abs.out (by rw [fn, decide_eq_true (by omega), decide_eq_true c]; simp) rfl (by (repeat (first | exact Kept.refl | apply Kept.push | refine Kept.kill ?_ (by omega) | refine Kept.set ?_ (by omega))))
              · simp only [↓STEP, go_sem, ↓reduceIte, Nat.reduceEqDiff, Nat.reduceLeDiff, Nat.reduceLT, Nat.reduceAdd, Nat.reduceSub, Nat.reduceMul, Int.reduceLT, Int.reduceLE, Int.reduceEq, Int.reduceAdd, Int.reduceSub, Int.reduceMul, Int.reduceNeg, Int.reduceToNat, reduceCtorEq, hc, hx, f1, e1, f2, e2, f3, f4, ents_len, a', hcx, xp, b, c]
                exact Abs.out (by rw [fn, b, decide_eq_false c]; simp) rfl (by (repeat (first | exact Kept.refl | apply Kept.push | refine Kept.kill ?_ (by omega) | refine Kept.set ?_ (by omega))))
            · simp only [↓STEP, go_sem, ↓reduceIte, Nat.reduceEqDiff, Nat.reduceLeDiff, Nat.reduceLT, Nat.reduceAdd, Nat.reduceSub, Nat.reduceMul, Int.reduceLT, Int.reduceLE, Int.reduceEq, Int.reduceAdd, Int.reduceSub, Int.reduceMul, Int.reduceNeg, Int.reduceToNat, reduceCtorEq, hc, hx, f1, e1, f2, e2, f3, f4, ents_len, a', hcx, xp, b]
              exact Abs.out (by rw [fn, b, decide_eq_true (by omega)]; rfl) rfl (by (repeat (first | exact Kept.refl | apply Kept.push | refine Kept.kill ?_ (by omega) | refine Kept.set ?_ (by omega))))
          · simp only [↓STEP, go_sem, ↓reduceIte, Nat.reduceEqDiff, Nat.reduceLeDiff, Nat.reduceLT, Nat.reduceAdd, Nat.reduceSub, Nat.reduceMul, Int.reduceLT, Int.reduceLE, Int.reduceEq, Int.reduceAdd, Int.reduceSub, Int.reduceMul, Int.reduceNeg, Int.reduceToNat, reduceCtorEq, hc, hx, f1, e1, f2, e2, f3, f4, ents_len, a]
            exact Abs.out (by rw [fn, decide_eq_false (by omega)]; rfl) rfl (by (repeat (first | exact Kept.refl | apply Kept.push | refine Kept.kill ?_ (by omega) | refine Kept.set ?_ (by omega))))
    · rename_i hm
      cases hg2
      have hx := gPseudo_none (cap := cap) (ex := ex) hfs hm
      simp only [↓STEP, go_sem, ↓reduceIte, Nat.reduceEqDiff, Nat.reduceLeDiff, Nat.reduceLT, Nat.reduceAdd, Nat.reduceSub, Nat.reduceMul, Int.reduceLT, Int.reduceLE, Int.reduceEq, Int.reduceAdd, Int.reduceSub, Int.reduceMul, Int.reduceNeg, Int.reduceToNat, reduceCtorEq, hc, hx]
      exact Abs.out rfl rfl (by (repeat (first | exact Kept.refl | apply Kept.push | refine Kept.kill ?_ (by omega) | refine Kept.set ?_ (by omega))))
  · cases hg

/-! ### Sizes -/
end Am
