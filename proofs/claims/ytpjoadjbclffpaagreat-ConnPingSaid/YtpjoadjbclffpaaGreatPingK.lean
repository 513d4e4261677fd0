/- The law ConnPing at its seat: run by the kernel, at bytes that are not looked at. -/
import Derived.Test.YtpjoadjbclffpaaGreatLitPing
import Derived.Test.YtpjoadjbclffpaaGreatAmLawK
import Derived.Test.YtpjoadjbclffpaaGreatAmAll3
namespace Go.Proofs.YtpjoadjbclffpaaGreat.PingK
open Am
set_option linter.all false
set_option maxRecDepth 100000
noncomputable def prA : Prog := (Go.Proofs.YtpjoadjbclffpaaGreat.LitPing.all).add 212 xIndexByteK
theorem okA : ProgOk Tryz.prog prA := by
  unfold prA
  rw [xIndexByteK_eq]
  exact Go.Proofs.YtpjoadjbclffpaaGreat.LitPing.allOk.addFor (indexByte_ok Tryz.func212 (by kernel_rfl) (by kernel_rfl) (by kernel_rfl) (by kernel_rfl))
theorem begunK : yesK prA 3000 17 = true := by kernel_rfl
theorem begunX : ExtFor Tryz.prog 17 (xConst (.b true)) := closed_of_yes okA rfl (yesK_yes begunK)
noncomputable def pr : Prog := prA.add 17 (xConst (.b true))
theorem ok : ProgOk Tryz.prog pr := okA.addFor begunX

theorem runsK {pr : Prog} {n : Nat} {c : Cal} {ys : List V} {h : H} {K : V → H → Bool} (hk : runK pr n c ys h K = true) : Runs pr c ys h (fun v h' => K v h' = true) := by
  obtain ⟨v, h', hv, hk⟩ := runK_true pr n _ _ _ _ hk
  exact ⟨n, v, h', hv, hk⟩
/-- What the events of both ends are: one answer at 'x' with the bytes 'l', none at 'y'; the bytes of the caller are as they were. -/
noncomputable def evs (l : List UInt8) (x y : V) (h : H) : Bool :=
  match x, y with
  | .sl (some (b, 0)) 1 _ _, .sl _ 0 _ _ => match h.get b with
    | some (.rows 7 ([.i .i64 10, _, _, .sl (some (d, 0)) 8 _ _, _, _, _] :: _) _) => match h.get d, h.get 4096 with
      | some (.bytes bs _), some (.bytes bs' _) => eqS (bs.take 8) l && eqS bs' l
      | _, _ => false
    | _ => false
  | _, _ => false
noncomputable def evs2 (l : List UInt8) (sv : Bool) (v : V) (h : H) : Bool :=
  match v with
  | .tup [x, y] => if sv then evs l y x h else evs l x y h
  | _ => false
noncomputable def chkP (l : List UInt8) (sv : Bool) : Bool :=
  runK pr 3000 (.fn 11) [] (h0.push (.bytes l true)) fun c1 h1 => runK pr 3000 (.fn 11) [] h1 fun c2 h2 => runK pr 3000 (.fn 19) [c1, c2] h2 fun v h3 =>
    match v with
    | .tup [.p (some a), .p (some b)] => runK pr 3000 (.fn 20) [.p (some (if sv then b else a)), .sl (some (4096, 0)) 8 8 false] h3 fun e h4 =>
      match e with
      | .i .i64 0 => runK pr 3000 (.fn 21) [.p (some a), .p (some b)] h4 (evs2 l sv)
      | _ => false
    | _ => false
theorem c8_f (x0 x1 x2 x3 x4 x5 x6 x7 : UInt8) : chkP [x0, x1, x2, x3, x4, x5, x6, x7] false = (eqS [x0, x1, x2, x3, x4, x5, x6, x7] [x0, x1, x2, x3, x4, x5, x6, x7] && eqS [x0, x1, x2, x3, x4, x5, x6, x7] [x0, x1, x2, x3, x4, x5, x6, x7]) := by kernel_rfl
theorem c8_t (x0 x1 x2 x3 x4 x5 x6 x7 : UInt8) : chkP [x0, x1, x2, x3, x4, x5, x6, x7] true = (eqS [x0, x1, x2, x3, x4, x5, x6, x7] [x0, x1, x2, x3, x4, x5, x6, x7] && eqS [x0, x1, x2, x3, x4, x5, x6, x7] [x0, x1, x2, x3, x4, x5, x6, x7]) := by kernel_rfl

theorem evs_true {l : List UInt8} {x y : V} {h : H} (hk : evs l x y h = true) : ∃ b n1 e1 a2 n2 e2 rs row ro d n3 e3 bs ro2 bs2 ro3 v1 v2 v4 v5 v6, x = .sl (some (b, 0)) 1 n1 e1 ∧ y = .sl a2 0 n2 e2 ∧ h.get b = some (.rows 7 (row :: rs) ro) ∧ row = [.i .i64 10, v1, v2, .sl (some (d, 0)) 8 n3 e3, v4, v5, v6] ∧ h.get d = some (.bytes bs ro2) ∧ h.get 4096 = some (.bytes bs2 ro3) ∧ bs.take 8 = l ∧ bs2 = l := by
  unfold evs at hk
  split at hk
  · split at hk
    · split at hk
      · rename_i q1 q2
        rw [Bool.and_eq_true, eqS_eq, eqS_eq, decide_eq_true_iff, decide_eq_true_iff] at hk
        exact ⟨_, _, _, _, _, _, _, _, _, _, _, _, _, _, _, _, _, _, _, _, _, rfl, rfl, by assumption, rfl, q1, q2, hk.1, hk.2⟩
      · cases hk
    · cases hk
  · cases hk
theorem nl_f : lawK pr 3000 4 [.nl, .b false] = true := by kernel_rfl
theorem r0_f : lawK pr 3000 4 [.bs [], .b false] = true := by kernel_rfl
theorem r1_f (x0 : UInt8) : lawK pr 3000 4 [.bs [x0], .b false] = true := by kernel_rfl
theorem r2_f (x0 x1 : UInt8) : lawK pr 3000 4 [.bs [x0, x1], .b false] = true := by kernel_rfl
theorem r3_f (x0 x1 x2 : UInt8) : lawK pr 3000 4 [.bs [x0, x1, x2], .b false] = true := by kernel_rfl
theorem r4_f (x0 x1 x2 x3 : UInt8) : lawK pr 3000 4 [.bs [x0, x1, x2, x3], .b false] = true := by kernel_rfl
theorem r5_f (x0 x1 x2 x3 x4 : UInt8) : lawK pr 3000 4 [.bs [x0, x1, x2, x3, x4], .b false] = true := by kernel_rfl
theorem r6_f (x0 x1 x2 x3 x4 x5 : UInt8) : lawK pr 3000 4 [.bs [x0, x1, x2, x3, x4, x5], .b false] = true := by kernel_rfl
theorem r7_f (x0 x1 x2 x3 x4 x5 x6 : UInt8) : lawK pr 3000 4 [.bs [x0, x1, x2, x3, x4, x5, x6], .b false] = true := by kernel_rfl
theorem r9_f (x0 x1 x2 x3 x4 x5 x6 x7 x8 : UInt8) (l : List UInt8) : lawK pr 3000 4 [.bs (x0 :: x1 :: x2 :: x3 :: x4 :: x5 :: x6 :: x7 :: x8 :: l), .b false] = true := by kernel_rfl
theorem nl_t : lawK pr 3000 4 [.nl, .b true] = true := by kernel_rfl
theorem r0_t : lawK pr 3000 4 [.bs [], .b true] = true := by kernel_rfl
theorem r1_t (x0 : UInt8) : lawK pr 3000 4 [.bs [x0], .b true] = true := by kernel_rfl
theorem r2_t (x0 x1 : UInt8) : lawK pr 3000 4 [.bs [x0, x1], .b true] = true := by kernel_rfl
theorem r3_t (x0 x1 x2 : UInt8) : lawK pr 3000 4 [.bs [x0, x1, x2], .b true] = true := by kernel_rfl
theorem r4_t (x0 x1 x2 x3 : UInt8) : lawK pr 3000 4 [.bs [x0, x1, x2, x3], .b true] = true := by kernel_rfl
theorem r5_t (x0 x1 x2 x3 x4 : UInt8) : lawK pr 3000 4 [.bs [x0, x1, x2, x3, x4], .b true] = true := by kernel_rfl
theorem r6_t (x0 x1 x2 x3 x4 x5 : UInt8) : lawK pr 3000 4 [.bs [x0, x1, x2, x3, x4, x5], .b true] = true := by kernel_rfl
theorem r7_t (x0 x1 x2 x3 x4 x5 x6 : UInt8) : lawK pr 3000 4 [.bs [x0, x1, x2, x3, x4, x5, x6], .b true] = true := by kernel_rfl
theorem r9_t (x0 x1 x2 x3 x4 x5 x6 x7 x8 : UInt8) (l : List UInt8) : lawK pr 3000 4 [.bs (x0 :: x1 :: x2 :: x3 :: x4 :: x5 :: x6 :: x7 :: x8 :: l), .b true] = true := by kernel_rfl
end Go.Proofs.YtpjoadjbclffpaaGreat.PingK
