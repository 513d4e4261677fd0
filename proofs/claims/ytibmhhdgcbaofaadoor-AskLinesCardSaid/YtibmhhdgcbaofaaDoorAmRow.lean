/- AmRow: from a run of the abstract machine to a call of the model, as a row's frame asks for it. -/
import Derived.Test.YtibmhhdgcbaofaaDoorAmDraw5
import Derived.Below
namespace Am
set_option linter.unusedVariables false
set_option linter.unusedSimpArgs false
open Go (IntKind BinOp UnOp Value Program TypeId TypeDesc Operand Oper Code Tmp World Addr Obj Act Fence)

/-- The program itself, nothing taken for granted. -/
def progOf (P : Program) : Prog := { fn := fun f => (P.funcs[f]?).bind (compF P), ext := fun _ => none }
theorem progOf_ok (P : Program) : ProgOk P (progOf P) :=
  ⟨fun f af h => Option.bind_eq_some_iff.1 h, fun f g h => by simp [progOf] at h, fun R hR => draw_sound hR⟩

theorem calls_of_run {P : Program} {pr : Prog} (hp : ProgOk P pr) {n f : Nat} {args : List V} {v : V} {h h' : H} (hx : pr.ext f = none) (hrun : runN pr n (.fn f) args h = some (v, h')) {e : Emb} {w : World} {cargs : Array Value}
    (hv : VRL e args cargs.toList) (s : Sim (CC P) w.heap.size e h w) (hro : ∀ b x, h.get b = some x → x.own = false) :
    Go.Calls P f cargs w fun E w' => ∃ u e', E = .returned u ∧ VR e' v u ∧ Go.RowKit.Below w.heap.size w w' := by
  cases n with
  | zero => simp [runN] at hrun
  | succ n =>
    simp only [runN, evCal, hx] at hrun
    split at hrun
    · rename_i af haf
      obtain ⟨fn, hf, hc⟩ := hp.fn f af haf
      have hR := run_sound hp n
      obtain ⟨h1, h2⟩ := fn_sound hR (hp.draw _ hR) n hf hc hrun (F := Fence.wide) 0 hv s ⟨fun _ => trivial, rfl, rfl⟩
      rw [h2] at h1
      refine Go.callsIn_wide.1 (Go.CallsIn.mono h1 ?_)
      rintro E w' ⟨u, rfl, e', hu, st⟩
      refine ⟨u, e', rfl, hu, st.sky.os, st.sky.tape, st.sky.output, st.grow, fun c hc => st.keep c hc ?_⟩
      rintro ⟨b, x, l, hb, hown, _⟩
      rw [hro b x hb] at hown; cases hown
    · cases hrun

def yes : Option (V × H) → Bool
  | some (.b true, _) => true
  | _ => false
theorem yes_some {r : Option (V × H)} (h : yes r = true) : ∃ h', r = some (.b true, h') := by
  unfold yes at h
  split at h
  · exact ⟨_, rfl⟩
  · cases h

theorem glOf_lt {P : Program} {b : Nat} {l : Loc} (h : glOf P b = some l) : b < 4096 := by
  unfold glOf at h
  split at h
  · assumption
  · cases h

/-- A law that takes nothing, and that the machine answers by true. -/
theorem closed_calls {P : Program} {n f : Nat} (h : yes (runN (progOf P) n (.fn f) [] ⟨4096, .e⟩) = true) (w : World) : Go.Calls P f #[] w fun E w' => E = .returned (.bool true) ∧ Go.RowKit.Below w.heap.size w w' := by
  obtain ⟨h', hr⟩ := yes_some h
  have hno : ∀ b x, (⟨4096, .e⟩ : H).get b = some x → False := fun b x hb => by simp [H.get, Tr.get] at hb
  have := calls_of_run (progOf_ok P) (e := glOf P) (w := w) (cargs := #[]) rfl hr .nil ⟨fun b x hb => (hno b x hb).elim, fun b _ x _ _ _ hb => (hno b x hb).elim, fun b l h => glOf_lt h, Nat.le_refl _, fun _ _ h => h⟩ (fun b x hb => (hno b x hb).elim)
  refine this.mono ?_
  rintro E w' ⟨u, e', rfl, hu, hb⟩
  cases hu
  exact ⟨rfl, hb⟩

end Am
