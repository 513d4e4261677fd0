/- AmRfn: ranging over functions, and the rounds of such loops. -/
import Derived.Test.YtkhnielggkcbiaaGreatDoorAmAll2
namespace Am
set_option linter.unusedVariables false
set_option linter.unusedSimpArgs false
variable {pr : Prog} {nt : Nat} {ar : Option Nat} {t : Tm} {h : H} {Q : Ex → Tm → H → Prop}

/-- The loop is begun: its function is called; when that is done, what is pending goes on. -/
theorem wpA_rfn {f : AOpd} {ps : List Nat} {a b : ACode} {k : Nat} {caps : List V} (har : aroundOk h ar = true) (hf : t.ev f = .f (.fn k) caps)
    (hr : Runs pr (.fn k) ([.f (.yl h.nx) []] ++ caps) (h.push (.loop { st := .ready, pend := .normal, tm := t, nt := nt, params := ps, assign := a, body := b }))
      (fun _ h' => ∃ L, h'.get h.nx = some (.loop L) ∧ L.st ≠ .busy ∧ Q L.pend t (h'.kill h.nx))) : wpA pr nt ar (.rfn f ps a b) t h Q := by
  obtain ⟨n, v, h', hv, L, hg, hst, hq⟩ := hr
  refine ⟨n, L.pend, t, h'.kill h.nx, ?_, hq⟩
  simp only [evA, har, hf, hv, hg, if_true, Option.bind_some, if_neg hst]

end Am
