/- AmGuard: the fast evaluator with calls that are answered under a condition: the condition is handed out behind the rest of the run. -/
import Derived.Test.YtpjoadjbclffpaaGreatAmLawK
import Derived.Test.YtpjoadjbclffpaaGreatAmAll3
namespace Am
set_option linter.all false
open Go (IntKind BinOp UnOp Value Program)
/-- A call's answer under a condition: the condition, what is answered, the heap. -/
abbrev Gd := Nat → Option (List V → H → Option (Bool × V × H))
/-- What a guarded answer says of the program: where the condition holds, it is the program's own answer. -/
def GdOk (pr : Prog) (gd : Gd) : Prop := ∀ f g, gd f = some g → ∃ x, pr.ext f = some x ∧ ∀ ys h c v h', g ys h = some (c, v, h') → c = true → x ys h = some (v, h')
/-- 'late': the functions in whose regions a look is compared behind the rest of the run. -/
noncomputable def calL (pr : Prog) (late : Nat → Bool) (N : Nat) (R : RK) (f : Nat) (as : List V) (h : H) (K : KV) : Bool :=
  @Bool.rec (fun _ => Bool) (calK pr N R (.fn f) as h K) (@Option.rec (List V → H → Option (V × H)) (fun _ => Bool) (@Option.rec AFunc (fun _ => Bool) false (fun af => fnL true af N R as h K) (pr.fn f)) (fun _ => false) (pr.ext f)) (late f)
noncomputable def calG (pr : Prog) (gd : Gd) (late : Nat → Bool) (N : Nat) (R : RK) (c : Cal) (as : List V) (h : H) (K : KV) : Bool :=
  @Cal.rec (fun _ => Bool)
    (fun f => @Option.rec (List V → H → Option (Bool × V × H)) (fun _ => Bool) (calL pr late N R f as h K)
      (fun g => @Bool.rec (fun _ => Bool) (@Option.rec (Bool × V × H) (fun _ => Bool) false (fun r => @Bool.rec (fun _ => Bool) false r.1 (K r.2.1 r.2.2)) (g as h)) false (isYl as)) (gd f))
    (fun l => calK pr N R c as h K) c
noncomputable def runG (pr : Prog) (gd : Gd) (late : Nat → Bool) : Nat → RK := @Nat.rec (fun _ => RK) (fun _ _ _ _ => false) (fun n ih c as h K => calG pr gd late n ih c as h K)
theorem calK_true {pr : Prog} {n : Nat} {R : RK} (hR : RKok R (runN pr n)) {c : Cal} {as : List V} {h : H} {K : KV} (hk : calK pr n R c as h K = true) : ∃ v h', runN pr (n + 1) c as h = some (v, h') ∧ K v h' = true := by
    cases c with
    | fn f =>
      have hk : @Option.rec (List V → H → Option (V × H)) (fun _ => Bool) (@Option.rec AFunc (fun _ => Bool) false (fun af => fnK af n R as h K) (pr.fn f)) (fun g => @Bool.rec (fun _ => Bool) (@Option.rec (V × H) (fun _ => Bool) false (fun r => K r.1 r.2) (g as h)) false (isYl as)) (pr.ext f) = true := hk
      cases hx : pr.ext f with
      | some g =>
        rw [hx] at hk
        have hk : @Bool.rec (fun _ => Bool) (@Option.rec (V × H) (fun _ => Bool) false (fun r => K r.1 r.2) (g as h)) false (isYl as) = true := hk
        cases hy : isYl as with
        | true => rw [hy] at hk; cases hk
        | false =>
          rw [hy] at hk
          have hk : @Option.rec (V × H) (fun _ => Bool) false (fun r => K r.1 r.2) (g as h) = true := hk
          cases hg : g as h with
          | none => rw [hg] at hk; cases hk
          | some r =>
            rw [hg] at hk
            exact ⟨r.1, r.2, by simp only [runN, evCal, hx, hy]; exact hg, hk⟩
      | none =>
        rw [hx] at hk
        have hk : @Option.rec AFunc (fun _ => Bool) false (fun af => fnK af n R as h K) (pr.fn f) = true := hk
        cases hf : pr.fn f with
        | none => rw [hf] at hk; cases hk
        | some af =>
          rw [hf] at hk
          obtain ⟨v, h', hv, hk⟩ := fnK_true hR hk
          exact ⟨v, h', by simp only [runN, evCal, hx, hf]; exact hv, hk⟩
    | yl l =>
      obtain ⟨x, hx, hk⟩ := loopAt_true (show loopAt h l (fun x => roundK l x n R as h K) = true from hk)
      obtain ⟨v, h', hv, hk⟩ := roundK_true hR hk
      exact ⟨v, h', by simp only [runN, evCal, hx]; exact hv, hk⟩
theorem calL_true {pr : Prog} {late : Nat → Bool} {n : Nat} {R : RK} (hR : RKok R (runN pr n)) {f : Nat} {as : List V} {h : H} {K : KV} (hk : calL pr late n R f as h K = true) : ∃ v h', runN pr (n + 1) (.fn f) as h = some (v, h') ∧ K v h' = true := by
  unfold calL at hk
  cases hl : late f with
  | false => rw [hl] at hk; exact calK_true hR hk
  | true =>
    rw [hl] at hk
    have hk : @Option.rec (List V → H → Option (V × H)) (fun _ => Bool) (@Option.rec AFunc (fun _ => Bool) false (fun af => fnL true af n R as h K) (pr.fn f)) (fun _ => false) (pr.ext f) = true := hk
    cases hx : pr.ext f with
    | some g => rw [hx] at hk; cases hk
    | none =>
      rw [hx] at hk
      have hk : @Option.rec AFunc (fun _ => Bool) false (fun af => fnL true af n R as h K) (pr.fn f) = true := hk
      cases hf : pr.fn f with
      | none => rw [hf] at hk; cases hk
      | some af =>
        rw [hf] at hk
        obtain ⟨v, h', hv, hk⟩ := fnL_true hR hk
        exact ⟨v, h', by simp only [runN, evCal, hx, hf]; exact hv, hk⟩
theorem runG_true {pr : Prog} {gd : Gd} {late : Nat → Bool} (hg : GdOk pr gd) : ∀ n : Nat, RKok (runG pr gd late n) (runN pr n)
  | 0 => fun c as h K hk => by cases hk
  | n + 1 => fun c as h K hk => by
    have hR := runG_true (late := late) hg n
    have hk : calG pr gd late n (runG pr gd late n) c as h K = true := hk
    cases c with
    | yl l => exact calK_true hR hk
    | fn f =>
      have hk : @Option.rec (List V → H → Option (Bool × V × H)) (fun _ => Bool) (calL pr late n (runG pr gd late n) f as h K)
        (fun g => @Bool.rec (fun _ => Bool) (@Option.rec (Bool × V × H) (fun _ => Bool) false (fun r => @Bool.rec (fun _ => Bool) false r.1 (K r.2.1 r.2.2)) (g as h)) false (isYl as)) (gd f) = true := hk
      cases hd : gd f with
      | none => rw [hd] at hk; exact calL_true hR hk
      | some g =>
        obtain ⟨x, hx, hgx⟩ := hg f g hd
        rw [hd] at hk
        have hk : @Bool.rec (fun _ => Bool) (@Option.rec (Bool × V × H) (fun _ => Bool) false (fun r => @Bool.rec (fun _ => Bool) false r.1 (K r.2.1 r.2.2)) (g as h)) false (isYl as) = true := hk
        cases hy : isYl as with
        | true => rw [hy] at hk; cases hk
        | false =>
          rw [hy] at hk
          have hk : @Option.rec (Bool × V × H) (fun _ => Bool) false (fun r => @Bool.rec (fun _ => Bool) false r.1 (K r.2.1 r.2.2)) (g as h) = true := hk
          cases hga : g as h with
          | none => rw [hga] at hk; cases hk
          | some r =>
            obtain ⟨c, v, h'⟩ := r
            rw [hga] at hk
            have hk : @Bool.rec (fun _ => Bool) false c (K v h') = true := hk
            cases hK : K v h' with
            | false => rw [hK] at hk; cases hk
            | true =>
              rw [hK] at hk
              have hc : c = true := hk
              exact ⟨v, h', by simp only [runN, evCal, hx, hy]; exact hgx _ _ _ _ _ hga hc, hK⟩
theorem runsG {pr : Prog} {gd : Gd} {late : Nat → Bool} (hg : GdOk pr gd) {n : Nat} {c : Cal} {ys : List V} {h : H} {K : V → H → Bool} (hk : runG pr gd late n c ys h K = true) : Runs pr c ys h (fun v h' => K v h' = true) := by
  obtain ⟨v, h', hv, hk⟩ := runG_true hg n _ _ _ _ hk
  exact ⟨n, v, h', hv, hk⟩
theorem runsK {pr : Prog} {n : Nat} {c : Cal} {ys : List V} {h : H} {K : V → H → Bool} (hk : runK pr n c ys h K = true) : Runs pr c ys h (fun v h' => K v h' = true) := by
  obtain ⟨v, h', hv, hk⟩ := runK_true pr n _ _ _ _ hk
  exact ⟨n, v, h', hv, hk⟩
end Am
