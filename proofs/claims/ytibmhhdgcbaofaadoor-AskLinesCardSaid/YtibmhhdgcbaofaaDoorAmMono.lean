/- AmMono: more fuel, the same answer. -/
import Derived.Test.YtibmhhdgcbaofaaDoorAmCode
namespace Am
set_option linter.unusedVariables false
set_option linter.unusedSimpArgs false
open Go (IntKind BinOp UnOp)

def RLe (R R' : RunT) : Prop := ∀ c as h r, R c as h = some r → R' c as h = some r
def ILe (I I' : IterT) : Prop := ∀ (b b' : (Tm × H) → Option (Option Ex × (Tm × H))) s r, (∀ s r, b s = some r → b' s = some r) → I b s = some r → I' b' s = some r

variable {R R' : RunT} {I I' : IterT}

theorem evOp_mono (hR : RLe R R') {op : AAct} {t : Tm} {h : H} {r : V × H} (hv : evOp R op t h = some r) : evOp R' op t h = some r := by
  cases op with
  | op x => exact hv
  | call f args =>
    unfold evOp at hv ⊢
    simp only at hv ⊢
    split at hv
    · exact hR _ _ _ _ hv
    · cases hv
  | inv tbl x args =>
    unfold evOp at hv ⊢
    simp only at hv ⊢
    split at hv
    · split at hv
      · exact hR _ _ _ _ hv
      · cases hv
    · cases hv

theorem evOps_mono (hR : RLe R R') : ∀ {ops : List AOper} {t : Tm} {h : H} {r : Tm × H}, evOps R ops t h = some r → evOps R' ops t h = some r
  | [], t, h, r, hv => hv
  | o :: os, t, h, r, hv => by
    unfold evOps at hv ⊢
    split at hv
    · rename_i hw
      rw [if_pos hw]
      obtain ⟨q, h1, h2⟩ := Option.bind_eq_some_iff.1 hv
      rw [evOp_mono hR h1]
      exact evOps_mono hR h2
    · rename_i hw
      rw [if_neg hw]
      exact evOps_mono hR hv

theorem stepD_mono (hR : RLe R R') {o : AOper} {t : Tm} {h : H} {hs : List H} {r : V × H} (hv : stepD R o t h hs = some r) : stepD R' o t h hs = some r := by
  unfold stepD at hv ⊢
  split at hv
  · rename_i hw
    rw [if_pos hw]
    obtain ⟨q, h1, h2⟩ := Option.bind_eq_some_iff.1 hv
    rw [evOp_mono hR h1]
    exact h2
  · rename_i hw
    rw [if_neg hw]; exact hv

theorem evOpsD_mono (hR : RLe R R') : ∀ {ops : List AOper} {t : Tm} {h : H} {hs : List H} {r : Tm × H}, evOpsD R ops t h hs = some r → evOpsD R' ops t h hs = some r
  | [], t, h, hs, r, hv => hv
  | o :: os, t, h, hs, r, hv => by
    unfold evOpsD at hv ⊢
    obtain ⟨q, h1, h2⟩ := Option.bind_eq_some_iff.1 hv
    rw [stepD_mono hR h1]
    exact evOpsD_mono hR h2

theorem evA_mono (hR : RLe R R') (hI : ILe I I') (nt : Nat) (ar : Option Nat) : ∀ {c : ACode} {t : Tm} {h : H} {r : Ex × (Tm × H)}, evA R I nt ar c t h = some r → evA R' I' nt ar c t h = some r := by
  intro c
  induction c with
  | skip => intro t h r hv; exact hv
  | region ops =>
    intro t h r hv
    unfold evA at hv ⊢
    obtain ⟨q, h1, h2⟩ := Option.bind_eq_some_iff.1 hv
    rw [evOps_mono hR h1]; exact h2
  | regionD ops =>
    intro t h r hv
    unfold evA at hv ⊢
    obtain ⟨q, h1, h2⟩ := Option.bind_eq_some_iff.1 hv
    rw [evOpsD_mono hR h1]; exact h2
  | seq a b iha ihb =>
    intro t h r hv
    unfold evA at hv ⊢
    obtain ⟨⟨x, t1, h1⟩, hx, h2⟩ := Option.bind_eq_some_iff.1 hv
    rw [iha hx]
    cases x with
    | normal => exact ihb h2
    | exit id => exact h2
    | ret => exact h2
  | cond c x y ihx ihy =>
    intro t h r hv
    unfold evA at hv ⊢
    split at hv
    · rename_i v hc
      cases v
      · simp only [Bool.false_eq_true, if_false] at hv ⊢; exact ihy hv
      · simp only [if_true] at hv ⊢; exact ihx hv
    · cases hv
  | block id c ih =>
    intro t h r hv
    unfold evA at hv ⊢
    obtain ⟨q, h1, h2⟩ := Option.bind_eq_some_iff.1 hv
    rw [ih h1]; exact h2
  | loop c ih =>
    intro t h r hv
    unfold evA at hv ⊢
    refine hI _ _ _ _ (fun s r hb => ?_) hv
    obtain ⟨q, h1, h2⟩ := Option.bind_eq_some_iff.1 hb
    show (evA R' I' nt ar c s.1 s.2).bind _ = _
    rw [ih h1]; exact h2
  | rfn f ps a b iha ihb =>
    intro t h r hv
    unfold evA at hv ⊢
    split at hv
    · rename_i ha
      rw [if_pos ha]
      split at hv
      · obtain ⟨q, h1, h2⟩ := Option.bind_eq_some_iff.1 hv
        rw [hR _ _ _ _ h1]; exact h2
      · cases hv
    · cases hv
  | exit id => intro t h r hv; exact hv
  | ret => intro t h r hv; exact hv
  | bad => intro t h r hv; exact hv

theorem iter_mono {σ ε : Type} : ∀ {n m : Nat} {b b' : σ → Option (Option ε × σ)} {s : σ} {r : ε × σ}, n ≤ m → (∀ s r, b s = some r → b' s = some r) → iter b n s = some r → iter b' m s = some r
  | 0, m, b, b', s, r, hn, hb, hv => by cases hv
  | n + 1, 0, b, b', s, r, hn, hb, hv => by omega
  | n + 1, m + 1, b, b', s, r, hn, hb, hv => by
    unfold iter at hv ⊢
    obtain ⟨⟨x, s1⟩, h1, h2⟩ := Option.bind_eq_some_iff.1 hv
    rw [hb _ _ h1]
    cases x with
    | none => exact iter_mono (Nat.le_of_succ_le_succ hn) hb h2
    | some e => exact h2
theorem iter_le {n m : Nat} (hn : n ≤ m) : ILe (fun b s => iter b n s) (fun b s => iter b m s) := fun b b' s r hb hv => iter_mono hn hb hv

theorem evFn_mono (hR : RLe R R') (hI : ILe I I') {af : AFunc} {args : List V} {h : H} {r : V × H} (hv : evFn R I af args h = some r) : evFn R' I' af args h = some r := by
  unfold evFn at hv ⊢
  split at hv
  · rename_i hl
    rw [if_pos hl]
    obtain ⟨q, h1, h2⟩ := Option.bind_eq_some_iff.1 hv
    rw [evA_mono hR hI _ _ h1]; exact h2
  · cases hv

theorem evRound_mono (hR : RLe R R') (hI : ILe I I') {l : Nat} {L : LoopSt} {args : List V} {h : H} {r : V × H} (hv : evRound R I l L args h = some r) : evRound R' I' l L args h = some r := by
  unfold evRound at hv ⊢
  split at hv
  · rename_i hl
    rw [if_pos hl]
    obtain ⟨⟨x, t1, h1⟩, hx, h2⟩ := Option.bind_eq_some_iff.1 hv
    rw [evA_mono hR hI _ _ hx]
    cases x with
    | normal =>
      show (match h1.get l with | some (.loop L1) => _ | _ => _) = _
      simp only at h2
      split at h2
      · rename_i L1 hg
        rw [hg]
        simp only
        split at h2
        · rename_i hst
          rw [if_pos hst]
          obtain ⟨q, h3, h4⟩ := Option.bind_eq_some_iff.1 h2
          rw [evA_mono hR hI _ _ h3]; exact h4
        · cases h2
      · cases h2
    | exit id => cases h2
    | ret => cases h2
  · cases hv

theorem evCal_mono (pr : Prog) (hR : RLe R R') (hI : ILe I I') : RLe (evCal pr R I) (evCal pr R' I') := by
  intro c as h r hv
  cases c with
  | fn f =>
    simp only [evCal] at hv ⊢
    cases he : pr.ext f with
    | some g => rw [he] at hv; exact hv
    | none =>
      rw [he] at hv
      cases hf : pr.fn f with
      | some af => rw [hf] at hv; exact evFn_mono hR hI hv
      | none => rw [hf] at hv; cases hv
  | yl l =>
    simp only [evCal] at hv ⊢
    split at hv
    · rename_i L hg
      exact evRound_mono hR hI hv
    · cases hv

theorem runN_mono (pr : Prog) : ∀ {n m : Nat}, n ≤ m → RLe (runN pr n) (runN pr m)
  | 0, m, hn => fun c as h r hv => by cases hv
  | n + 1, 0, hn => by omega
  | n + 1, m + 1, hn => evCal_mono pr (runN_mono pr (Nat.le_of_succ_le_succ hn)) (iter_le (Nat.le_of_succ_le_succ hn))

end Am
