/- AmLawK: a law with arguments whose runs are computed by the kernel. -/
import Derived.Test.YtfabolagjlhdpaaGreatAmAll2
import Derived.Test.YtfabolagjlhdpaaGreatAmLit
namespace Am
set_option linter.all false
open Go (IntKind BinOp UnOp Value Program TypeId World DataW MemPlace)
variable {P : Program}
theorem law_callsK {pr : Prog} (hp : ProgOk P pr) {f : Nat} (hx : pr.ext f = none) {HT : Type} {enc : TypeId × Value → HT} {w : World} {r : Go.Reach} {base n : Nat} {ts : List TypeId} {tys : List Ty} {args : Array Value} {ds : List (DataW HT)} {ps : List MemPlace}
    (ht : tysOf P n ts = some tys) (hv : ∀ (j : Nat) t v, ts[j]? = some t → args.toList[j]? = some v → Value.okWide P w r base t v) (hd : DataW.TrodAll enc P w 0 (fun _ => true) true ts args.toList ds ps)
    (hlaw : ∀ xs, Dt.hasL tys xs → ∃ m v h', runN pr m (.fn f) (Dt.args xs h0).1 (Dt.args xs h0).2 = some (v, h') ∧ v = .b true) : Go.Calls P f args w fun E w' => E = .returned (.bool true) ∧ Go.RowKit.Below w.heap.size w w' := by
  obtain ⟨xs, hxs, hl⟩ := args_laid ht hv hd
  have hno : ∀ b x, h0.get b = some x → False := fun b x hb => by simp [h0, H.get, Tr.get] at hb
  have s0 : Sim (CC P) w.heap.size (glOf P) h0 w := ⟨fun b x hb => (hno b x hb).elim, fun b _ x _ _ _ hb => (hno b x hb).elim, fun b l h => glOf_lt h, Nat.le_refl _, fun _ _ h => h, .no hno⟩
  obtain ⟨e', _, hvs, s, hro⟩ := hl _ _ _ _ s0 (fun b x hb => (hno b x hb).elim)
  obtain ⟨m, v, h', hrun, hv1⟩ := hlaw xs hxs
  have := calls_of_run hp hx hrun hvs s hro
  refine this.mono ?_
  rintro E w' ⟨u, e2, rfl, hu, hb⟩
  rw [hv1] at hu
  cases hu
  exact ⟨rfl, hb⟩
end Am
