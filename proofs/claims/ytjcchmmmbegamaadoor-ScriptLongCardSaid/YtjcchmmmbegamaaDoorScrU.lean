/- Script texts: what the law ScriptBack wants of lines. No program in sight. -/
import Derived.Test.YtjcchmmmbegamaaDoorScrR
import Derived.Test.YtjcchmmmbegamaaDoorScrE
namespace Am
set_option linter.unusedVariables false
set_option linter.unusedSimpArgs false
set_option maxRecDepth 20000
set_option maxHeartbeats 8000000

theorem wrF_app : ∀ (ss ss2 : List Sp) (acc : List UInt8) (er : Int), wrF (ss ++ ss2) acc er = (wrF ss acc er).bind fun p => wrF ss2 p.1 p.2
  | [], ss2, acc, er => rfl
  | s :: r, ss2, acc, er => by
    rw [List.cons_append, wrF, wrF]
    split
    · rfl
    · exact wrF_app r ss2 _ _
theorem told_write {ss : List Sp} {t : List UInt8} (h : Told ss t) : t.length ≤ 1048576 → wrF ss [] 0 = some (t, 0) := by
  induction h with
  | nil => intro _; rfl
  | snoc ss t s l h ok hl hn ih =>
    intro hlen
    rw [List.length_append] at hlen
    rw [wrF_app, ih (by omega), Option.bind_some, wrF, wrF]
    have e : lineE s = (l ++ [10], 0) := by unfold lineE; rw [hl]
    rw [e]
    simp only
    rw [if_neg (by omega)]
    simp [errF]
theorem told_count {ss : List Sp} {t : List UInt8} (h : Told ss t) : t.count 10 = ss.length := by
  induction h with
  | nil => rfl
  | snoc ss t s l h ok hl hn ih =>
    rw [List.count_append, List.count_append, ih, List.count_eq_zero_of_not_mem hn, List.length_append]
    rfl
end Am
/- The law ScriptBack. -/
namespace Am
set_option linter.unusedVariables false
set_option linter.unusedSimpArgs false
set_option maxRecDepth 20000
set_option maxHeartbeats 8000000
variable {pr : Prog}

theorem spOk_R {Z : H → Int → Bool} {h : H} (hz : ∀ n, Z h n = true) {s : Sp} (o : SpR s) : SpOk Z h s :=
  ⟨o.i.k, o.i.r, o.i.i, o.i.n, fun c hc => ⟨o.i.c c hc, hz c⟩, hz _, hz _, o.f, o.d⟩
/-- What the reader answers, whatever is read. -/
def ReadsAll (pr : Prog) (E : H → Bool) (k : Nat) : Prop := ∀ (h : H) (s : List UInt8), s.length < 1000000 → E h = true → 4096 ≤ h.nx → Runs pr (.fn k) [.s s] h (fun v g => ReadTo h g s v)
theorem told_writeV {ss : List Sp} {t : List UInt8} (h : Told ss t) (hl : t.length ≤ 1048576) (hn : ss.length ≤ 4096) : writeV ss = .tup [.s t, .i .i64 0] := by
  unfold writeV
  rw [if_neg (by omega), told_write h hl]
  simp
end Am
