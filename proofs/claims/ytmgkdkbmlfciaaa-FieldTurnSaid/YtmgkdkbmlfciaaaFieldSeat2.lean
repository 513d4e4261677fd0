/- What the functions of this seat answer: FieldTurn, FieldCase. -/
import Derived.Test.YtmgkdkbmlfciaaaFieldSeat
import Derived.Test.YtmgkdkbmlfciaaaField15
import Derived.Test.YtmgkdkbmlfciaaaField16
import Derived.ProofKit
namespace Go.Proofs.Ytmgkdkbmlfciaaa.FieldSeat2
open Am Go.Proofs.Ytmgkdkbmlfciaaa.FieldSeat
set_option maxRecDepth 100000
theorem turnLaw (xs : List Dt) (h : Dt.hasL [fdsTy, .i .i64, .i .i64] xs) : wpF pr31 (c_isthmuslaw3_FieldTurn 10 15 17 19) (Dt.args xs h0).1 (Dt.args xs h0).2 (fun v _ => v = .b true) := by
  obtain ⟨x, xs1, rfl, h1, ha⟩ := hasL_cons h
  obtain ⟨y, xs2, rfl, h2, ha⟩ := hasL_cons ha
  obtain ⟨z, xs3, rfl, h3, ha⟩ := hasL_cons ha
  obtain rfl := hasL_nil ha
  obtain ⟨fs, _, hf⟩ := fields_of h1
  obtain ⟨p, cap, ex, e1, e2, _⟩ := hf h0
  obtain ⟨i, rfl, _⟩ := has_i h2
  obtain ⟨j, rfl, _⟩ := has_i h3
  have e5 : ∀ (k : Int) g, ((Dt.i .i64 k).arg g) = (.i .i64 k, g) := fun _ _ => rfl
  simp only [Dt.args, e1, e5]
  exact fieldTurn_law (by kernel_rfl) (by kernel_rfl) (by kernel_rfl) (by kernel_rfl) e2 i j
theorem caseLaw (xs : List Dt) (h : Dt.hasL [.s, .i .i64, .i .u8] xs) : wpF pr31 (c_isthmuslaw3_FieldCase 10 11) (Dt.args xs h0).1 (Dt.args xs h0).2 (fun v _ => v = .b true) := by
  obtain ⟨x, xs1, rfl, h1, ha⟩ := hasL_cons h
  obtain ⟨y, xs2, rfl, h2, ha⟩ := hasL_cons ha
  obtain ⟨z, xs3, rfl, h3, ha⟩ := hasL_cons ha
  obtain rfl := hasL_nil ha
  obtain ⟨l, rfl, _⟩ := has_s h1
  obtain ⟨k, rfl, _⟩ := has_i h2
  obtain ⟨c, rfl, hc1, hc2⟩ := has_i h3
  exact fieldCase_law (by kernel_rfl) (by kernel_rfl) l k c (Int.le_trans (by decide) hc1) (Int.le_trans hc2 (by decide)) h0
end Go.Proofs.Ytmgkdkbmlfciaaa.FieldSeat2
