/- The law ConnOver at its seat: the kernel's runs, with a code that is a free variable. -/
import Derived.Test.YtpjoadjbclffpaaGreatLitOver
import Derived.Test.YtpjoadjbclffpaaGreatAmGuard
import Derived.Test.YtpjoadjbclffpaaGreatFr2
namespace Go.Proofs.YtpjoadjbclffpaaGreat.OverK
open Am
set_option linter.all false
set_option maxRecDepth 100000
noncomputable def prA : Prog := (Go.Proofs.YtpjoadjbclffpaaGreat.LitOver.all).add 212 xIndexByteK
theorem okA : ProgOk Tryz.prog prA := by
  unfold prA
  rw [xIndexByteK_eq]
  exact Go.Proofs.YtpjoadjbclffpaaGreat.LitOver.allOk.addFor (indexByte_ok Tryz.func212 (by kernel_rfl) (by kernel_rfl) (by kernel_rfl) (by kernel_rfl))
theorem begunK : yesK prA 3000 17 = true := by kernel_rfl
theorem begunX : ExtFor Tryz.prog 17 (xConst (.b true)) := closed_of_yes okA rfl (yesK_yes begunK)
noncomputable def prB : Prog := prA.add 17 (xConst (.b true))
theorem okB : ProgOk Tryz.prog prB := okA.addFor begunX
/-- Whether a code may be. -/
noncomputable def inW (n : Int) : Bool := @Int.rec (fun _ => Bool) (fun m => Nat.ble m 4294967295) (fun _ => false) n
theorem inW_eq (n : Int) : inW n = (decide (0 ≤ n) && decide (n < 4294967296)) := by
  cases n with
  | ofNat m =>
    show Nat.ble m 4294967295 = _
    by_cases h : m ≤ 4294967295
    · rw [Nat.ble_eq_true_of_le h]
      have h1 : (0 : Int) ≤ Int.ofNat m := Int.natCast_nonneg m
      have h2 : Int.ofNat m < 4294967296 := by show (m : Int) < _; omega
      rw [decide_eq_true h1, decide_eq_true h2]; rfl
    · have : ¬ Int.ofNat m < 4294967296 := by show ¬ (m : Int) < _; omega
      have h3 : Nat.ble m 4294967295 = false := by
        cases hb : Nat.ble m 4294967295 with
        | false => rfl
        | true => exact absurd (Nat.le_of_ble_eq_true hb) h
      rw [h3, decide_eq_false this, Bool.and_false]
  | negSucc m =>
    have : ¬ (0 : Int) ≤ Int.negSucc m := by omega
    rw [decide_eq_false this]; rfl
noncomputable def gWord (ys : List V) (h : H) : Option (V × H) :=
  match ys with
  | [.i .i64 n] => some (.b (inW n), h)
  | _ => none
theorem word_ok {pr : Prog} : OkFor pr Go.Proofs.YtpjoadjbclffpaaGreat.LitOver.l66 gWord := by
  intro ys h v h' hg
  unfold gWord at hg
  split at hg
  · rename_i n
    cases hg
    rw [inW_eq]
    unfold wpF Go.Proofs.YtpjoadjbclffpaaGreat.LitOver.l66
    refine ⟨by simp, ?_⟩
    by_cases h1 : 0 ≤ n <;> by_cases h2 : n < 4294967296
    all_goals
      simp only [↓STEP, go_sem, ↓reduceIte, Nat.reduceEqDiff, Nat.reduceLeDiff, Nat.reduceLT, Nat.reduceAdd, Nat.reduceSub, Nat.reduceMul, Int.reduceLT, Int.reduceLE, Int.reduceEq, Int.reduceAdd, Int.reduceSub, Int.reduceMul, Int.reduceNeg, Int.reduceToNat, reduceCtorEq, ge_iff_le, h1, h2]
      exact Abs.eq (by simp [h1, h2]) rfl
  · cases hg
noncomputable def prC : Prog := prB.add 66 gWord
theorem okC : ProgOk Tryz.prog prC := okB.add (af := Go.Proofs.YtpjoadjbclffpaaGreat.LitOver.l66) (by kernel_rfl) word_ok
noncomputable def prD : Prog := prC.add 178 gWord
theorem okD : ProgOk Tryz.prog prD := okC.add (af := Go.Proofs.YtpjoadjbclffpaaGreat.LitOver.l178) (by kernel_rfl) word_ok
noncomputable def pr : Prog := prD.add 177 gLay
theorem ok : ProgOk Tryz.prog pr := okD.add (af := Go.Proofs.YtpjoadjbclffpaaGreat.LitOver.l177) (by kernel_rfl) lay_ok
noncomputable def gWordG (ys : List V) (h : H) : Option (Bool × V × H) :=
  match ys with
  | [.i .i64 n] => some (inW n, .b true, h)
  | _ => none
noncomputable def gd : Gd := fun f => @Bool.rec (fun _ => Option (List V → H → Option (Bool × V × H))) (@Bool.rec (fun _ => Option (List V → H → Option (Bool × V × H))) none (some gWordG) (Nat.beq f 178)) (some gWordG) (Nat.beq f 66)
theorem gWordG_ok (ys : List V) (h : H) (c : Bool) (v : V) (h' : H) (hg : gWordG ys h = some (c, v, h')) (hc : c = true) : gWord ys h = some (v, h') := by
  unfold gWordG at hg
  split at hg
  · cases hg; rw [← hc]; rfl
  · cases hg
theorem gdOk : GdOk pr gd := by
  intro f g hf
  by_cases h1 : f = 66
  · subst h1
    have : some gWordG = some g := hf
    cases this
    exact ⟨gWord, rfl, gWordG_ok⟩
  · by_cases h2 : f = 178
    · subst h2
      have : some gWordG = some g := hf
      cases this
      exact ⟨gWord, rfl, gWordG_ok⟩
    · unfold gd at hf
      rw [beq_no h1, beq_no h2] at hf
      cases hf
noncomputable def late (f : Nat) : Bool := Nat.beq f 134
noncomputable def andL (c r : Bool) : Bool := @Bool.rec (fun _ => Bool) false c r
theorem andL_eq (c r : Bool) : andL c r = (c && r) := by cases c <;> cases r <;> rfl
noncomputable def newK (role : Int) (h : H) (K : Nat × Nat × Nat → H → Bool) : Bool :=
  runK pr 3000 (.fn 11) [] h fun c1 h1 => runK pr 3000 (.fn 10) [.i .i64 role, c1] h1 fun v h2 =>
    match v with
    | .tup [.p (some a), .i .i64 0] => K a h2
    | _ => false
noncomputable abbrev rG := runG pr gd late 3000
/-- All that comes behind 'New'. -/
noncomputable def restK (code : Int) (bsl : V) (a : Nat × Nat × Nat) (h2 : H) : Bool :=
  rG (.fn 27) [.p (some a), .i .i64 1048576] h2 fun _ h3 =>
    rG (.fn 29) [.p (some a), .i .i64 code] h3 fun v h4 => match v with
    | .i .i64 0 => rG (.fn 27) [.p (some a), .i .i64 1048576] h4 fun v h5 => match v with
      | .sl _ 17 _ _ => rG (.fn 14) [.p (some a), bsl] h5 fun v h6 => match v with
        | .sl _ 0 _ _ => rG (.fn 16) [] h6 fun v7 h7 => rG (.fn 15) [.p (some a), v7, .b true] h7 fun v h8 => match v with
          | .tup [.i .i64 _, .i .i64 11] => rG (.fn 20) [.p (some a), .sl (some (h8.nx, 0)) 8 8 false] ((h8.push (.bytes [49, 50, 51, 52, 53, 54, 55, 56] false)).set h8.nx (.bytes [49, 50, 51, 52, 53, 54, 55, 56] false)) fun v h9 => match v with
            | .i .i64 11 => rG (.fn 11) [] h9 fun v10 h10 => rG (.fn 30) [.p (some a), v10] h10 fun v h11 => match v with
              | .i .i64 11 => rG (.fn 29) [.p (some a), .i .i64 1] h11 fun v h12 => match v with
                | .i .i64 11 => rG (.fn 31) [.p (some a), .i .i64 0, .i .i64 0] h12 fun v h13 => match v with
                  | .i .i64 11 => rG (.fn 18) [.p (some a)] h13 fun v h14 => match v with
                    | .b true => rG (.fn 12) [.p (some a)] h14 fun v h15 => match v with
                      | .i .i64 0 => true
                      | _ => false
                    | _ => false
                  | _ => false
                | _ => false
              | _ => false
            | _ => false
          | _ => false
        | _ => false
      | _ => false
    | _ => false
noncomputable def ovrK (role code : Int) (bsl : V) (h : H) : Bool := newK role h (restK code bsl)
noncomputable def rhs (n : Int) : Bool := andL (inW n) (andL true (andL true (andL true (andL true (andL (andL (andL true (decide (n = n))) (decide (n = n))) (andL true (andL true (andL true (andL true (andL true (andL true (andL true (andL (andL true (decide (n = n))) (inW n))))))))))))))
theorem rhs_eq (n : Int) : rhs n = inW n := by
  unfold rhs; simp only [andL_eq]; cases inW n <;> simp
theorem o1a (m : Nat) (v : V) : ovrK 1 (Int.ofNat (m + 1)) v h0 = rhs (Int.ofNat (m + 1)) := by kernel_rfl
theorem o1b (m : Nat) (v : V) (l : List UInt8) : ovrK 1 (Int.ofNat (m + 1)) v (h0.push (.bytes l true)) = rhs (Int.ofNat (m + 1)) := by kernel_rfl
theorem n1a : newK 1 h0 (fun _ _ => true) = true := by kernel_rfl
theorem n1b (l : List UInt8) : newK 1 (h0.push (.bytes l true)) (fun _ _ => true) = true := by kernel_rfl
theorem o2a (m : Nat) (v : V) : ovrK 2 (Int.ofNat (m + 1)) v h0 = rhs (Int.ofNat (m + 1)) := by kernel_rfl
theorem o2b (m : Nat) (v : V) (l : List UInt8) : ovrK 2 (Int.ofNat (m + 1)) v (h0.push (.bytes l true)) = rhs (Int.ofNat (m + 1)) := by kernel_rfl
theorem n2a : newK 2 h0 (fun _ _ => true) = true := by kernel_rfl
theorem n2b (l : List UInt8) : newK 2 (h0.push (.bytes l true)) (fun _ _ => true) = true := by kernel_rfl
noncomputable def h0e : H := ⟨4097, .e⟩
theorem o1c (m : Nat) (v : V) : ovrK 1 (Int.ofNat (m + 1)) v h0e = rhs (Int.ofNat (m + 1)) := by kernel_rfl
theorem n1c : newK 1 h0e (fun _ _ => true) = true := by kernel_rfl
theorem o2c (m : Nat) (v : V) : ovrK 2 (Int.ofNat (m + 1)) v h0e = rhs (Int.ofNat (m + 1)) := by kernel_rfl
theorem n2c : newK 2 h0e (fun _ _ => true) = true := by kernel_rfl
theorem xznl (m : Nat) (x : UInt8) (l : List UInt8) (c : Int) : lawK pr 3000 8 [.i .i64 (.ofNat 0), .nl, .i .i64 c] = true := by kernel_rfl
theorem xze (m : Nat) (x : UInt8) (l : List UInt8) (c : Int) : lawK pr 3000 8 [.i .i64 (.ofNat 0), .bs [], .i .i64 c] = true := by kernel_rfl
theorem xzc (m : Nat) (x : UInt8) (l : List UInt8) (c : Int) : lawK pr 3000 8 [.i .i64 (.ofNat 0), .bs (x :: l), .i .i64 c] = true := by kernel_rfl
theorem xpnl (m : Nat) (x : UInt8) (l : List UInt8) (c : Int) : lawK pr 3000 8 [.i .i64 (.ofNat (m + 3)), .nl, .i .i64 c] = true := by kernel_rfl
theorem xpe (m : Nat) (x : UInt8) (l : List UInt8) (c : Int) : lawK pr 3000 8 [.i .i64 (.ofNat (m + 3)), .bs [], .i .i64 c] = true := by kernel_rfl
theorem xpc (m : Nat) (x : UInt8) (l : List UInt8) (c : Int) : lawK pr 3000 8 [.i .i64 (.ofNat (m + 3)), .bs (x :: l), .i .i64 c] = true := by kernel_rfl
theorem xnnl (m : Nat) (x : UInt8) (l : List UInt8) (c : Int) : lawK pr 3000 8 [.i .i64 (.negSucc m), .nl, .i .i64 c] = true := by kernel_rfl
theorem xne (m : Nat) (x : UInt8) (l : List UInt8) (c : Int) : lawK pr 3000 8 [.i .i64 (.negSucc m), .bs [], .i .i64 c] = true := by kernel_rfl
theorem xnc (m : Nat) (x : UInt8) (l : List UInt8) (c : Int) : lawK pr 3000 8 [.i .i64 (.negSucc m), .bs (x :: l), .i .i64 c] = true := by kernel_rfl
end Go.Proofs.YtpjoadjbclffpaaGreat.OverK
