/- The laws of layer 19 at their seat: contracts of timers and of a new end. -/
import Derived.Test.YtfabolagjlhdpaaGreatEndK
import Derived.Test.YtfabolagjlhdpaaGreatEnd7
import Derived.Test.YtfabolagjlhdpaaGreatAmGcB
namespace Go.Proofs.YtfabolagjlhdpaaGreat.EndK
open Am
set_option linter.all false
set_option maxRecDepth 100000
noncomputable def isV (w v : V) (h : H) : Bool := match w, v with | .agg vs, .agg ws => relsB (fun a b => Nat.beq a b) vs ws | v, w => relB (fun a b => Nat.beq a b) v w
theorem listK : runK prB 3000 (.fn 8) [] h0 (isV vList0) = true := by kernel_rfl
theorem listX : ExtFor Tryz.prog 8 (xConst vList0) := by
  obtain ⟨v, h', hv, hk⟩ := runK_true prB 3000 _ _ _ _ listK
  have e : v = vList0 := by
    unfold isV vList0 at hk
    cases v <;> first | (cases hk; done) | skip
    rename_i ws
    have := relsB_yes hk
    have key : ∀ (vs ws : List V), V.rels (fun a b => Nat.beq a b = true) vs ws → (∀ v ∈ vs, ∃ n, v = V.i .i64 n) → ws = vs := by
      intro vs
      induction vs with
      | nil => intro ws h _; cases ws with | nil => rfl | cons _ _ => cases h
      | cons v vs ih =>
        intro ws h hv
        cases ws with
        | nil => cases h
        | cons w ws =>
          obtain ⟨n, rfl⟩ := hv v (by simp)
          rw [ih ws h.2 fun v hm => hv v (by simp [hm])]
          congr 1
          have h1 := h.1
          cases w <;> first | (cases h1; done) | (obtain ⟨rfl, rfl⟩ := h1; rfl)
    rw [key _ ws this (by simp)]; rfl
  rw [e] at hv
  exact ExtFor.closed okB (by kernel_rfl) hv rfl
noncomputable def prC : Prog := prB.add 8 (xConst vList0)
theorem okC : ProgOk Tryz.prog prC := okB.addFor listX
noncomputable def prD : Prog := prC.add 21 gConn
theorem okD : ProgOk Tryz.prog prD := okC.addFor connX
noncomputable def prE : Prog := prD.add 89 gKind
theorem okE : ProgOk Tryz.prog prE := okD.add (af := Am.c_timer_kind) (by kernel_rfl) kind_ok
noncomputable def prF : Prog := prE.add 58 gStop
theorem okF : ProgOk Tryz.prog prF := okE.add (af := Am.c_timer_Set_Stop 89) (by kernel_rfl) (stop_ok rfl)
noncomputable def prG : Prog := prF.add 57 (gRl NextR)
theorem okG : ProgOk Tryz.prog prG := okF.add (af := Am.c_timer_Set_next) (by kernel_rfl) next_ok
noncomputable def prH : Prog := prG.add 26 (gDue 56)
theorem okH : ProgOk Tryz.prog prH := okG.add (af := Am.c_timer_Set_Due 56) (by kernel_rfl) due_ok
noncomputable def prI : Prog := prH.add 28 gFlush
theorem okI : ProgOk Tryz.prog prI := okH.add (af := Am.c_endpoint_End_flush) (by kernel_rfl) flush_ok
noncomputable def prJ : Prog := prI.add 20 gTime
theorem okJ : ProgOk Tryz.prog prJ := okI.add (af := Am.c_endpoint_time) (by kernel_rfl) time_ok
noncomputable def prL : Prog := prJ.add 22 gTNew
theorem okL : ProgOk Tryz.prog prL := okJ.add (af := Am.c_timer_New) (by kernel_rfl) tnew_ok
noncomputable def prM : Prog := prL.add 23 gDNew
theorem okM : ProgOk Tryz.prog prM := okL.add (af := Am.c_drain_New) (by kernel_rfl) dnew_ok
def own0 : Nat → V
  | 0 => .i .i64 4096
  | 1 => .i .i64 10
  | 2 => .i .i64 65535
  | 3 => .i .i64 16384
  | _ => .i .i64 1000
def cB (role : Int) (n : Nat) : List Blk := if role = 1 then cB1 n else cB2 n
noncomputable def prN : Prog := prM.add 7 (gNew own0 cB)
theorem okN : ProgOk Tryz.prog prN := by
  refine okM.add (af := Am.c_endpoint_New 20 21 22 23 24 25) (by kernel_rfl) (new_ok (gC := gConn) (kk := 89) (kA := 55) rfl rfl rfl rfl rfl (by kernel_rfl) rfl (by kernel_rfl) rfl rfl (by kernel_rfl) ?_ ?_ ?_ ?_)
  · intro i hi
    match i, hi with
    | 0, _ => exact ⟨_, _, rfl⟩
    | 1, _ => exact ⟨_, _, rfl⟩
    | 2, _ => exact ⟨_, _, rfl⟩
    | 3, _ => exact ⟨_, _, rfl⟩
    | 4, _ => exact ⟨_, _, rfl⟩
  · intro r n
    unfold cB
    split <;> rfl
  · intro role hr g
    unfold gConn
    simp only
    rw [if_pos (show ownV own0 = vList0 from rfl)]
    rcases hr with rfl | rfl <;> rfl
  · intro role hr g
    unfold gConn
    simp only
    rw [if_pos (show ownV own0 = vList0 from rfl), if_neg (fun h => hr (.inl h)), if_neg (fun h => hr (.inr h))]
end Go.Proofs.YtfabolagjlhdpaaGreat.EndK
