/- The program's reading of a number, as a rule of the machine. -/
import Derived.Test.YtjcchmmmbegamaaDoorScrV2
import Derived.Test.YtjcchmmmbegamaaDoorScrE
set_option linter.unusedVariables false
set_option linter.unusedSimpArgs false
namespace Go.Proofs.YtjcchmmmbegamaaDoor.ScrV3
open Go.Shelf Go.RowKit Am Go.Proofs ScrV2

theorem globT : glOf Tryd.prog 1 = some ⟨1, 0, 20, 1⟩ := by kernel_rfl
theorem nameT : Go.Program.globalNamed Tryd.prog "internal/strconv.uint64pow10" = some 1 := by kernel_rfl
theorem glob6 : glOf Tryd.prog 6 = some ⟨6, 0, 1, 1⟩ := by kernel_rfl
theorem glob7 : glOf Tryd.prog 7 = some ⟨7, 0, 1, 1⟩ := by kernel_rfl
set_option maxRecDepth 100000 in
theorem whole_ok : ExtFor Tryd.prog 69 (gWhole (hasE 1 6 7)) := by
  intro ys h v h' hev B e w cargs F k hv s hF
  have hent : (Go.callFunc 69 cargs).run Tryd.prog w = .ok (.enter 69 cargs) w := Go.Proofs.enters_of Tryd.func69 (by kernel_rfl) rfl cargs w
  rw [hent]
  simp only [InvPost]
  refine callsIn_of_calls hF ?_
  unfold gWhole at hev
  split at hev
  case h_2 => cases hev
  rename_i l m
  split at hev
  case isFalse => cases hev
  rename_i hc
  obtain ⟨hE, hl⟩ := hc
  cases hev
  unfold hasE at hE
  simp only [Bool.and_eq_true] at hE
  obtain ⟨hT, h6, h7⟩ := hE
  have ht := tabIs_of globT nameT s hT
  obtain ⟨t6, p6, c6⟩ := cell_if glob6 s h6
  obtain ⟨t7, p7, c7⟩ := cell_if glob7 s h7
  obtain ⟨cargs⟩ := cargs
  cases hv with
  | cons _ u _ us h1 h2 =>
  cases h2 with
  | cons _ u2 _ us2 h3 h4 =>
  cases h4
  obtain ⟨sb, rfl, hsb⟩ := h1.s_inv
  obtain rfl := h3.i_inv
  have hsz : sb.size ≤ 1000000 := by
    rw [← hsb] at hl
    simpa using hl
  have done : ∀ (n : Int) (b : Bool) (w' : World), wholeF l m = (n, b) → Below w.heap.size w w' → ∃ u, (Go.Ending.returned (.tuple #[.int .i64 n, .bool b]) : Go.Ending) = .returned u ∧ ∃ e', VR e' (.tup [.i .i64 (wholeF l m).1, .b (wholeF l m).2]) u ∧ Stp (CC Tryd.prog) B e h w e' h w' := by
    intro n b w' hw hb
    rw [hw]
    exact ⟨_, rfl, e, .tup _ _ (.cons _ _ _ _ (.i _ _) (.cons _ _ _ _ (.b _) .nil)), Stp.more s (fun c hc => hb.block c hc) hb.size ⟨hb.os, hb.tape, hb.output⟩⟩
  cases hp : Lib.parseIntB 64 sb.data.toList with
  | ok n =>
    obtain ⟨r0, r1⟩ := parseIntB_range hp
    refine (whole_ok1 sb hsz n hp r0 r1 m w ht).mono ?_
    rintro E w' ⟨rfl, hb⟩
    refine done _ _ w' ?_ hb
    unfold wholeF
    rw [← hsb, hp]
    simp only
    rw [itoF_eq r0 r1, ByteArray.toList_eq]
    congr 2
    rw [Bool.eq_iff_iff]
    simp
  | «syntax» =>
    refine (whole_bad sb 0 133 m w ?_).mono ?_
    · refine (Any.strconv_ParseInt_10_at64_syntax Tryd.laysC174 sb (by omega) hp (.iface t6 p6) w c6 (.inr ⟨_, _, rfl⟩)).mono ?_
      rintro E w' ⟨N, rfl, _, _, hb⟩
      exact ⟨N, rfl, hb⟩
    · rintro E w' ⟨rfl, hb⟩
      refine done _ _ w' ?_ hb
      unfold wholeF
      rw [← hsb, hp]
  | range =>
    refine (whole_bad sb (Lib.intSat 64 sb.data.toList) 133 m w ?_).mono ?_
    · refine (Any.strconv_ParseInt_10_at64_range Tryd.laysC174 sb (by omega) hp (.iface t7 p7) w c7 (.inr ⟨_, _, rfl⟩)).mono ?_
      rintro E w' ⟨N, rfl, _, _, hb⟩
      exact ⟨N, rfl, hb⟩
    · rintro E w' ⟨rfl, hb⟩
      refine done _ _ w' ?_ hb
      unfold wholeF
      rw [← hsb, hp]
end Go.Proofs.YtjcchmmmbegamaaDoor.ScrV3
