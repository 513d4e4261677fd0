/- The law ScriptTexts at its seat. -/
import Derived.Test.YtjcchmmmbegamaaDoorScrSeat2
import Derived.Test.YtjcchmmmbegamaaDoorScrD
import Derived.Test.YtjcchmmmbegamaaDoorAmIndex
import Derived.Shelf.Vars
namespace Go.Proofs.YtjcchmmmbegamaaDoor.ScrSeat3
open Am Go.Proofs ScrSeat ScrSeat2
set_option maxRecDepth 100000
theorem glob : glOf Tryd.prog 0 = some ⟨0, 0, 1, 1⟩ := by kernel_rfl
/-- The library's variable holds some number when the call begins. -/
theorem shaped (W : World) (h : W.ShapedOpen Tryd.prog) : ∃ m, W.cell? ⟨0, 0, none⟩ = some (.int .i64 m) :=
  cell_of_shapedOpen_int h (t := 3) (zero := #[.int .i64 0]) (of_decide_eq_true (by kernel_rfl)) (by kernel_rfl) rfl (by kernel_rfl) (by kernel_rfl) Tryd.underlying3
theorem bulkK {H : Type} : ∃ K : Bulk H, K.BA = Rows.uptoBulkAll ∧ K.B = Rows.uptoBulk :=
  ⟨{ B := Rows.uptoBulk, BA := Rows.uptoBulkAll,
     one := fun d => by
       cases d with
       | lit l => cases l <;> simp [Rows.uptoBulk]
       | _ => simp [Rows.uptoBulk]
     str := fun bs => by simp [Rows.uptoBulk]
     slice := fun es sp => by simp only [Rows.uptoBulk]; omega
     agg := fun ps => by simp [Rows.uptoBulk]
     cons := fun d r => by simp [Rows.uptoBulkAll] }, rfl, rfl⟩
theorem textsLaw (m : Int) (xs : List Dt) (h : Dt.hasL [fldTy, .s] xs) (hb : Dt.bulkL xs ≤ 1048576) : wpF pr29 (c_isthmuslaw23_ScriptTexts 7 8 14 15 16 17 18 19 20 21 22) (Dt.args xs (hG 0 m)).1 (Dt.args xs (hG 0 m)).2 (fun v _ => v = .b true) := by
  obtain ⟨x, xs1, rfl, h1, ha⟩ := hasL_cons h
  obtain ⟨y, xs2, rfl, h2, hb2⟩ := hasL_cons ha
  obtain rfl := hasL_nil hb2
  obtain ⟨fs, q1, q3⟩ := fields_ofT h1
  obtain ⟨l, rfl, _⟩ := has_s h2
  simp only [Dt.bulkL, Dt.bulk] at hb
  obtain ⟨p, c, ex, e1, e2, e3⟩ := q3 (hG 0 m)
  have hargs : (Dt.args [x, .s l] (hG 0 m)) = ([.sl p fs.length c ex, .s l], (x.arg (hG 0 m)).2) := by
    simp only [Dt.args]
    rw [e1]
    rfl
  rw [hargs]
  exact texts_law (by kernel_rfl) (by kernel_rfl) (by kernel_rfl) (by kernel_rfl) (by kernel_rfl) (by kernel_rfl) (by kernel_rfl) (by kernel_rfl) (by kernel_rfl) (by kernel_rfl) (by kernel_rfl) (by kernel_rfl) (by kernel_rfl) e2 (by omega) (by omega)
end Go.Proofs.YtjcchmmmbegamaaDoor.ScrSeat3
