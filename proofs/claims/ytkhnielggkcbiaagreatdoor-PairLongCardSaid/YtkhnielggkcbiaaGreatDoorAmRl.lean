/- AmRl: a contract that is a relation which tells one answer. -/
import Derived.Test.YtkhnielggkcbiaaGreatDoorAmGc
import Derived.Test.YtkhnielggkcbiaaGreatDoorConf1
namespace Am
set_option linter.all false
open Go (IntKind BinOp UnOp Value Program)
abbrev Rl := List V → H → V → H → Prop
def Rl.One (R : Rl) : Prop := ∀ ys h v h' w h'', R ys h v h' → R ys h w h'' → v = w ∧ h' = h''
noncomputable def gRl (R : Rl) (ys : List V) (h : H) : Option (V × H) :=
  open Classical in if hk : ∃ p : V × H, R ys h p.1 p.2 then some (Classical.choose hk) else none
theorem gRl_inv {R : Rl} {ys : List V} {h h' : H} {v : V} (hg : gRl R ys h = some (v, h')) : R ys h v h' := by
  unfold gRl at hg
  split at hg
  · rename_i hk
    have := Classical.choose_spec hk
    have e := Option.some.inj hg
    rw [e] at this
    exact this
  · cases hg
theorem gRl_at {R : Rl} (one : R.One) {ys : List V} {h h' : H} {v : V} (hr : R ys h v h') : gRl R ys h = some (v, h') := by
  unfold gRl
  have hx : ∃ p : V × H, R ys h p.1 p.2 := ⟨(v, h'), hr⟩
  rw [dif_pos hx]
  have := one _ _ _ _ _ _ (Classical.choose_spec hx) hr
  exact congrArg some (Prod.ext this.1 this.2)
theorem OkFor.rl {pr : Prog} {af : AFunc} {R : Rl} (hw : ∀ ys h v h', R ys h v h' → wpF pr af ys h (fun v1 h1 => Abs h v1 h1 v h')) : OkFor pr af (gRl R) := fun ys h v h' hg => hw ys h v h' (gRl_inv hg)
theorem ProgOk.addRl {P : Program} {pr : Prog} (hp : ProgOk P pr) {f : Nat} {af : AFunc} {R : Rl} (hx : pr.ext f = none) (hf : pr.fn f = some af) (hr : ∀ ys h v h', R ys h v h' → Runs pr (.fn f) ys h (fun v1 h1 => Abs h v1 h1 v h')) : ProgOk P (pr.add f (gRl R)) := by
  refine hp.add hf fun ys h v h' hg => ?_
  obtain ⟨n, v1, h1, a, b⟩ := hr ys h v h' (gRl_inv hg)
  cases n with
  | zero => cases a
  | succ n =>
    simp only [runN, evCal, hx, hf] at a
    unfold evFn at a
    split at a
    · rename_i hl
      obtain ⟨⟨ex, t', h2⟩, he, a⟩ := Option.bind_eq_some_iff.1 a
      refine ⟨hl, n, ex, t', h2, he, ?_⟩
      cases ex with
      | exit id => cases a
      | normal =>
        obtain ⟨vs, hv, a⟩ := Option.bind_eq_some_iff.1 a
        cases a
        exact ⟨vs, hv, b⟩
      | ret =>
        obtain ⟨vs, hv, a⟩ := Option.bind_eq_some_iff.1 a
        cases a
        exact ⟨vs, hv, b⟩
    · cases a
end Am
