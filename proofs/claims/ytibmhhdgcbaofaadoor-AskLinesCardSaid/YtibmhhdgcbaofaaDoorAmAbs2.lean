/- AmAbs2: more on a call's answer said simply: elder blocks that are written. -/
import Derived.Test.YtibmhhdgcbaofaaDoorAmAbs
namespace Am
set_option linter.unusedVariables false
set_option linter.unusedSimpArgs false
open Go (IntKind BinOp UnOp Value Program TypeId TypeDesc Operand Oper Code Tmp World Addr Obj Act Fence)

/-- What h' holds is of the elder blocks, as h1 has them; what was written names no block. -/
def Wrote (h h1 h' : H) : Prop := h.nx ≤ h1.nx ∧ h'.nx = h.nx ∧ ∀ b x, h'.get b = some x → (∃ y, h.get b = some y ∧ (x = y ∨ x.plain = true)) ∧ (b < h.nx → h1.get b = some x)

theorem Stp.wrote {C : Cx} {B : Nat} {e e' : Emb} {h h1 h' : H} {w w' : World} (s : Sim C B e h w) (st : Stp C B e h w e' h1 w') (hk : Wrote h h1 h') : Stp C B e h w e h' w' := by
  obtain ⟨hn, hn', hg0⟩ := hk
  have hg : ∀ b x, h'.get b = some x → h1.get b = some x ∧ ∃ y, h.get b = some y ∧ (x = y ∨ x.plain = true) := fun b x hb => by
    obtain ⟨⟨y, hy, hxy⟩, h2⟩ := hg0 b x hb
    exact ⟨h2 (s.lt hy), y, hy, hxy⟩
  have blk : ∀ b x, h'.get b = some x → ∃ l, e b = some l ∧ BlkR C e x l w' ∧ l.cb < w'.heap.size ∧ (x.own = true → B ≤ l.cb) := by
    intro b x hb
    obtain ⟨h2, y, hy, hxy⟩ := hg b x hb
    obtain ⟨l, hl, hr, hlt, ho⟩ := s.blk b y hy
    obtain ⟨l', hl', hr', hlt', ho'⟩ := st.sim.blk b x h2
    rw [st.le _ _ hl] at hl'; cases hl'
    refine ⟨l, hl, ?_, hlt', ho'⟩
    rcases hxy with rfl | hp
    · exact hr.back st.le hr'
    · exact hr'.plain hp
  refine ⟨Emb.le_refl _, ⟨blk, ?_, fun b l hb => by rw [hn']; exact s.dom b l hb, Nat.le_trans s.low st.grow, s.gl⟩, ?_, ?_, st.keep, st.grow, by omega, st.sky⟩
  · intro b b' x x' l l' hb hb' ho hne hl hl'
    exact st.sim.inj b b' x x' l l' (hg b x hb).1 (hg b' x' hb').1 ho hne (st.le _ _ hl) (st.le _ _ hl')
  · rintro c ⟨b, x, l, hb, ho, hl, rfl⟩
    exact st.own _ ⟨b, x, l, (hg b x hb).1, ho, st.le _ _ hl, rfl⟩
  · rintro c ⟨b, x, l, hb, hl, rfl⟩
    obtain ⟨_, y, hy, _⟩ := hg b x hb
    exact .inr ⟨b, y, l, hy, hl, rfl⟩

theorem Abs.wrote {h h1 h' : H} {v1 v : V} (hv : v1 = v) (hp : v.plain = true) (hk : Wrote h h1 h') : Abs h v1 h1 v h' := by
  subst hv
  exact fun C B e e' w w' u s hv st => ⟨e, hv.plain hp, st.wrote s hk⟩

/-- All but one of the elder blocks are as they were. -/
def KeptBut (b : Nat) (h h1 : H) : Prop := h.nx ≤ h1.nx ∧ ∀ i, i < h.nx → i ≠ b → h1.get i = h.get i
theorem KeptBut.refl {b : Nat} {h : H} : KeptBut b h h := ⟨Nat.le_refl _, fun _ _ _ => rfl⟩
theorem KeptBut.push {b : Nat} {h h1 : H} (k : KeptBut b h h1) {x : Blk} : KeptBut b h (h1.push x) := ⟨Nat.le_succ_of_le k.1, fun i hi hb => by rw [H.get_push, if_neg (by have := k.1; omega)]; exact k.2 i hi hb⟩
theorem KeptBut.set {b : Nat} {h h1 : H} (k : KeptBut b h h1) {j : Nat} {x : Blk} (hj : h.nx ≤ j) : KeptBut b h (h1.set j x) := ⟨k.1, fun i hi hb => by rw [H.get_set, if_neg (by omega)]; exact k.2 i hi hb⟩
theorem KeptBut.setb {b : Nat} {h h1 : H} (k : KeptBut b h h1) {x : Blk} : KeptBut b h (h1.set b x) := ⟨k.1, fun i hi hb => by rw [H.get_set, if_neg hb]; exact k.2 i hi hb⟩
theorem KeptBut.kill {b : Nat} {h h1 : H} (k : KeptBut b h h1) {j : Nat} (hj : h.nx ≤ j) : KeptBut b h (h1.kill j) := ⟨k.1, fun i hi hb => by rw [H.get_kill, if_neg (by omega)]; exact k.2 i hi hb⟩
/-- One elder block is written; what was made is let go. -/
theorem wrote_set {h h1 : H} {b : Nat} {x y : Blk} (hb : h.get b = some y) (hp : x.plain = true) (hx : h1.get b = some x) (hk : KeptBut b h h1) : Wrote h h1 (h.set b x) := by
  refine ⟨hk.1, rfl, fun i z hi => ?_⟩
  rw [H.get_set] at hi
  by_cases hib : i = b
  · subst hib
    rw [if_pos rfl] at hi; cases hi
    exact ⟨⟨y, hb, .inr hp⟩, fun _ => hx⟩
  · rw [if_neg hib] at hi
    exact ⟨⟨z, hi, .inl rfl⟩, fun hlt => (hk.2 i hlt hib).trans hi⟩
theorem set_same {h : H} {b : Nat} {x : Blk} (i : Nat) : (h.set b x).get i = if i = b then some x else h.get i := H.get_set _ _ _ _

/-- That a run answers so. -/
def isAns (v : V) (r : Option (V × H)) : Bool :=
  match r with
  | some (v', _) => V.beq v' v
  | none => false
theorem isAns_some {v : V} {r : Option (V × H)} (h : isAns v r = true) : ∃ h', r = some (v, h') := by
  unfold isAns at h
  split at h
  · rw [V.beq_eq _ _ h]; exact ⟨_, rfl⟩
  · cases h
/-- A function at arguments that name no block, run by the machine on the empty heap. -/
theorem ExtFor.closedArgs {P : Program} {pr : Prog} (hp : ProgOk P pr) {n f : Nat} {args0 : List V} {v : V} (hx : pr.ext f = none) (hrun : isAns v (runN pr n (.fn f) args0 ⟨4096, .e⟩) = true) (hpl0 : V.plains args0 = true) (hpl : v.plain = true)
    {g : List V → H → Option (V × H)} (hg : ∀ args h v' h', g args h = some (v', h') → args = args0 ∧ v' = v ∧ h' = h) : ExtFor P f g := by
  intro args h v' h' hev B e w cargs F k hv s hF
  obtain ⟨rfl, rfl, rfl⟩ := hg args h v' h' hev
  obtain ⟨h1, hrun⟩ := isAns_some hrun
  have hno : ∀ b x, (⟨4096, .e⟩ : H).get b = some x → False := fun b x hb => by simp [H.get, Tr.get] at hb
  have s0 : Sim (CC P) w.heap.size (glOf P) ⟨4096, .e⟩ w := ⟨fun b x hb => (hno b x hb).elim, fun b _ x _ _ _ hb => (hno b x hb).elim, fun b l h => glOf_lt h, Nat.le_refl _, fun _ _ h => h⟩
  cases n with
  | zero => cases hrun
  | succ n =>
    simp only [runN, evCal, hx] at hrun
    cases hf : pr.fn f with
    | none => rw [hf] at hrun; cases hrun
    | some af =>
      rw [hf] at hrun
      obtain ⟨fn, hP, hc⟩ := hp.fn f af hf
      have hR := run_sound hp n
      obtain ⟨h2, _⟩ := fn_sound hR (hp.draw _ hR) n hP hc hrun (F := F) k (hv.plain hpl0) s0 hF
      refine InvPost.mono h2 ?_
      rintro u w' ⟨e', hu, st⟩
      refine ⟨e, hu.plain hpl, Stp.more s (fun c hc => st.keep c hc ?_) st.grow st.sky⟩
      rintro ⟨b, x, l, hb, _⟩
      exact hno b x hb

end Am
