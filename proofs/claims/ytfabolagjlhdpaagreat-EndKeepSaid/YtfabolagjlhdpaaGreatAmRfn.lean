/- AmRfn: ranging over functions, and the rounds of such loops. -/
import Derived.Test.YtfabolagjlhdpaaGreatAmAll2
namespace Am
set_option linter.unusedVariables false
set_option linter.unusedSimpArgs false
variable {pr : Prog} {nt : Nat} {ar : Option Nat} {t : Tm} {h : H} {Q : Ex → Tm → H → Prop}

/-- The loop is begun: its function is called; when that is done, what is pending goes on. -/
theorem wpA_rfn {f : AOpd} {ps : List Nat} {a b : ACode} {k : Nat} {caps : List V} (har : aroundOk h ar = true) (hf : t.ev f = .f (.fn k) caps)
    (hr : Runs pr (.fn k) ([.f (.yl h.nx) []] ++ caps) (h.push (.loop { st := .ready, pend := .normal, tm := t, nt := nt, params := ps, assign := a, body := b }))
      (fun _ h' => ∃ L, h'.get h.nx = some (.loop L) ∧ L.st ≠ .busy ∧ Q L.pend t (h'.kill h.nx))) : wpA pr nt ar (.rfn f ps a b) t h Q := by
  obtain ⟨n, v, h', hv, L, hg, hst, hq⟩ := hr
  refine ⟨n, L.pend, t, h'.kill h.nx, ?_, hq⟩
  simp only [evA, har, hf, hv, hg, if_true, Option.bind_some, if_neg hst]

/-- A round: the yield is called. -/
theorem runs_yl {l : Nat} {L : LoopSt} {as : List V} {K : V → H → Prop} (hg : h.get l = some (.loop L)) (hl : as.length = L.params.length)
    (hw : wpA pr L.nt (some l) L.assign (stParams L.tm L.params as) h (fun e t1 h1 => e = .normal ∧ ∃ L1, h1.get l = some (.loop L1) ∧ L1.st = .ready ∧
      wpA pr L.nt (some l) L.body t1 (h1.set l (.loop { L1 with st := .busy })) (fun e2 t2 h2 => ∃ L2, h2.get l = some (.loop L2) ∧
        K (.b (decide (e2 = .normal))) (h2.set l (.loop { L2 with st := if e2 = .normal then .ready else .done, pend := e2 }))))) : Runs pr (.yl l) as h K := by
  obtain ⟨n, e, t1, h1, hx, rfl, L1, hg1, hst, m, e2, t2, h2, hy, L2, hg2, hk⟩ := hw
  refine ⟨max n m + 1, _, _, ?_, hk⟩
  have x1 := evA_mono (runN_mono pr (Nat.le_max_left n m)) (iter_le (Nat.le_max_left n m)) _ _ hx
  have y1 := evA_mono (runN_mono pr (Nat.le_max_right n m)) (iter_le (Nat.le_max_right n m)) _ _ hy
  simp only [runN, evCal, hg, evRound]
  rw [if_pos hl, x1]
  simp only [Option.bind_some, hg1, hst, if_true, y1, hg2]
theorem wpCall_yl {l : Nat} {caps : List V} {L : LoopSt} {as : List V} {K : V → H → Prop} (hg : h.get l = some (.loop L)) (hl : (as ++ caps).length = L.params.length)
    (hw : wpA pr L.nt (some l) L.assign (stParams L.tm L.params (as ++ caps)) h (fun e t1 h1 => e = .normal ∧ ∃ L1, h1.get l = some (.loop L1) ∧ L1.st = .ready ∧
      wpA pr L.nt (some l) L.body t1 (h1.set l (.loop { L1 with st := .busy })) (fun e2 t2 h2 => ∃ L2, h2.get l = some (.loop L2) ∧
        K (.b (decide (e2 = .normal))) (h2.set l (.loop { L2 with st := if e2 = .normal then .ready else .done, pend := e2 }))))) : wpCall pr (.f (.yl l) caps) as h K :=
  runs_yl hg hl hw
end Am
