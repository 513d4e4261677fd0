/- The program's reading of the number 1: by the library's contracts. -/
import Derived.Test.YtjcchmmmbegamaaDoorScrShelf
import Derived.Test.YtjcchmmmbegamaaDoorScrB
import Derived.Lib.AtoiErrMem
import Derived.WalkKit
import Derived.BigCall
set_option linter.unusedVariables false
set_option linter.unusedSimpArgs false
namespace Go.Proofs.YtjcchmmmbegamaaDoor.ScrV
open Go.Shelf Go.RowKit Am Go.Proofs

theorem pInt (w : World) : Calls Tryd.prog 81 #[.string ⟨#[49]⟩, .int .i64 10, .int .i64 64] w fun e w' => e = .returned (.tuple #[.int .i64 1, .nilIface]) ∧ (w' = w ∨ ∃ t, w' = Lib.bytesWorld w 5 t) := Any.strconv_ParseInt_10_at64_ok Tryd.laysC174 ⟨#[49]⟩ (by decide) 1 (by decide) w
theorem pFmt (w : World) : Calls Tryd.prog 53 #[.int .i64 1, .int .i64 10] w fun e w' => e = .returned (.string ⟨#[49]⟩) ∧ w' = w := by
  have h := Any.strconv_FormatInt_10_small Tryd.lays173 1 (by decide) w
  have hd : Lib.decDigits 1 = [49] := by rw [Lib.decDigits]; rfl
  rw [hd] at h
  exact h
set_option maxHeartbeats 6400000 in
set_option maxRecDepth 100000 in
theorem whole1 (m : Int) (w : World) : Calls Tryd.prog 69 #[.string ⟨#[49]⟩, .int .i64 m] w fun E w' => E = .returned (.tuple #[.int .i64 1, .bool (decide (1 ≤ m))]) ∧ (w' = w ∨ ∃ t, w' = Lib.bytesWorld w 5 t) := by
  go_enter Tryd.func69, Tryd.ntmps69
  go_wp2_with (first
    | (go_at_call 81; refine (pInt w).mono ?_; rintro E w1 ⟨rfl, hw1⟩)
    | (go_at_call 53; refine (pFmt w1).mono ?_; rintro E w2 ⟨rfl, hw2⟩; subst hw2)
    | go_in)
  · rw [decide_eq_true ‹1 ≤ m›]
    go_ret2; exact ⟨rfl, hw1⟩
  · rw [decide_eq_false (Int.not_le.2 ‹m < 1›)]
    go_ret2; exact ⟨rfl, hw1⟩
def xWhole1 (ys : List V) (h : H) : Option (V × H) :=
  match ys with
  | [.s l, .i .i64 m] => if l = [49] then some (.tup [.i .i64 1, .b (decide (1 ≤ m))], h) else none
  | _ => none
set_option maxRecDepth 100000 in
theorem whole1_ok : ExtFor Tryd.prog 69 xWhole1 := by
  intro ys h v h' hev B e w cargs F k hv s hF
  have hent : (Go.callFunc 69 cargs).run Tryd.prog w = .ok (.enter 69 cargs) w := Go.Proofs.enters_of Tryd.func69 (by kernel_rfl) rfl cargs w
  rw [hent]
  simp only [InvPost]
  refine callsIn_of_calls hF ?_
  unfold xWhole1 at hev
  split at hev
  case h_2 => cases hev
  rename_i l m
  split at hev
  case isFalse => cases hev
  rename_i hl
  cases hev
  obtain ⟨cargs⟩ := cargs
  cases hv with
  | cons _ u _ us h1 h2 =>
  cases h2 with
  | cons _ u2 _ us2 h3 h4 =>
  cases h4
  obtain ⟨sb, rfl, hsb⟩ := h1.s_inv
  obtain rfl := h3.i_inv
  have hs : sb = ⟨#[49]⟩ := by
    obtain ⟨⟨a⟩⟩ := sb
    simp only at hsb
    rw [← hsb] at hl
    subst hl; rfl
  subst hs
  refine (whole1 m w).mono ?_
  rintro E w' ⟨rfl, hw⟩
  refine ⟨_, rfl, e, .tup _ _ (.cons _ _ _ _ (.i _ _) (.cons _ _ _ _ (.b _) .nil)), ?_⟩
  rcases hw with rfl | ⟨t, rfl⟩
  · exact Stp.refl s
  · have hb := Lib.bytesWorld_below w 5 t
    exact Stp.more s (fun c hc => hb.block c hc) hb.size ⟨hb.os, hb.tape, hb.output⟩
end Go.Proofs.YtjcchmmmbegamaaDoor.ScrV
