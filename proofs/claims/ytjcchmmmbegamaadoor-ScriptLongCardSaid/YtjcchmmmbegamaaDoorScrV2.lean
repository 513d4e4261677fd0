/- The program's reading of a number: by the library's contracts. -/
import Derived.Test.YtjcchmmmbegamaaDoorScrV
import Derived.Test.YtjcchmmmbegamaaDoorScrF
import Derived.Lib.AppendIntMem
set_option linter.unusedVariables false
set_option linter.unusedSimpArgs false
namespace Go.Proofs.YtjcchmmmbegamaaDoor.ScrV2
open Go.Shelf Go.RowKit Am Go.Proofs

theorem tab_below {P : Program} {w w' : World} {name : String} {k : IntKind} {zs : List Int} {g : Nat} (hg : P.globalNamed name = some g) (h : Lib.TabIs P w name k zs) (hb : ∀ c, c < w.heap.size → w'.heap[c]? = w.heap[c]?) : Lib.TabIs P w' name k zs := by
  unfold Lib.TabIs World.var? at h ⊢
  rw [hg] at h ⊢
  simp only [Option.bind_some] at h ⊢
  have hlt : g < w.heap.size := by
    split at h
    · rename_i e; exact (Array.getElem?_eq_some_iff.1 e).1
    · cases h
  rw [hb g hlt]; exact h
theorem pOk (s : ByteArray) (hmax : s.size ≤ 1000000) (v : Int) (h : Lib.parseIntB 64 s.data.toList = .ok v) (w : World) : Calls Tryd.prog 81 #[.string s, .int .i64 10, .int .i64 64] w fun e w' => e = .returned (.tuple #[.int .i64 v, .nilIface]) ∧ Below w.heap.size w w' := by
  refine (Any.strconv_ParseInt_10_at64_ok Tryd.laysC174 s (by omega) v h w).mono ?_
  rintro E w' ⟨rfl, hw⟩
  refine ⟨rfl, ?_⟩
  rcases hw with rfl | ⟨t, rfl⟩
  · exact Below.refl _ _
  · exact Lib.bytesWorld_below w 5 t
theorem fOk (v : Int) (hv0 : -9223372036854775808 ≤ v) (hv1 : v ≤ 9223372036854775807) (w : World) (ht : Lib.TabIs Tryd.prog w "internal/strconv.uint64pow10" .u64 Lib.pow10Tab) : Calls Tryd.prog 53 #[.int .i64 v, .int .i64 10] w fun e w' => e = .returned (.string ⟨(Lib.itoa v).toArray⟩) ∧ Below w.heap.size w w' := by
  refine (Any.strconv_FormatInt_10 Tryd.laysM173 v hv0 hv1 w ht).mono ?_
  rintro E w' ⟨rfl, q, os, rfl⟩
  exact ⟨rfl, Go.Lib.below_grow _ w (Nat.le_refl _) q os⟩
set_option maxHeartbeats 6400000 in
set_option maxRecDepth 100000 in
theorem whole_ok1 (s : ByteArray) (hmax : s.size ≤ 1000000) (v : Int) (h : Lib.parseIntB 64 s.data.toList = .ok v) (hv0 : -9223372036854775808 ≤ v) (hv1 : v ≤ 9223372036854775807) (m : Int) (w : World) (ht : Lib.TabIs Tryd.prog w "internal/strconv.uint64pow10" .u64 Lib.pow10Tab) :
    Calls Tryd.prog 69 #[.string s, .int .i64 m] w fun E w' => E = .returned (.tuple #[.int .i64 v, .bool (decide (0 ≤ v) && decide (v ≤ m) && (Lib.itoa v == s.toList))]) ∧ Below w.heap.size w w' := by
  go_enter Tryd.func69, Tryd.ntmps69
  go_wp2_with (first
    | (go_at_call 81; refine (pOk s hmax v h w).mono ?_; rintro E w1 ⟨rfl, hw1⟩)
    | (go_at_call 53; refine (fOk v hv0 hv1 w1 (tab_below (g := 1) (by kernel_rfl) ht hw1.block)).mono ?_; rintro E w2 ⟨rfl, hw2⟩)
    | go_in)
  · rw [decide_eq_true ‹0 ≤ v›, decide_eq_true ‹v ≤ m›, Bool.true_and, Bool.true_and]
    go_ret2; exact ⟨rfl, hw1.trans (hw2.mono hw1.size)⟩
  · rw [decide_eq_false (Int.not_le.2 ‹m < v›), Bool.false_and]
    go_ret2; exact ⟨rfl, hw1⟩
  · rw [decide_eq_false (Int.not_le.2 ‹v < 0›), Bool.false_and, Bool.false_and]
    go_ret2; exact ⟨rfl, hw1⟩
set_option maxHeartbeats 6400000 in
set_option maxRecDepth 100000 in
theorem whole_bad (s : ByteArray) (n : Int) (te : TypeId) (m : Int) (w : World)
    (hP : Calls Tryd.prog 81 #[.string s, .int .i64 10, .int .i64 64] w fun e w' => ∃ N, e = .returned (.tuple #[.int .i64 n, .iface te (.pointer (some ⟨N, 0, none⟩))]) ∧ Below w.heap.size w w') :
    Calls Tryd.prog 69 #[.string s, .int .i64 m] w fun E w' => E = .returned (.tuple #[.int .i64 n, .bool false]) ∧ Below w.heap.size w w' := by
  go_enter Tryd.func69, Tryd.ntmps69
  go_wp2_with (first
    | (go_at_call 81; refine hP.mono ?_; rintro E w1 ⟨N, rfl, hw1⟩)
    | go_in)
  all_goals (go_ret2; exact ⟨rfl, hw1⟩)
end Go.Proofs.YtjcchmmmbegamaaDoor.ScrV2
