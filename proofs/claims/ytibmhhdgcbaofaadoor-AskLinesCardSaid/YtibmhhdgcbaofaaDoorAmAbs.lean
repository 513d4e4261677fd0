/- AmAbs: a call's answer said more simply: what it made and let go is left out. -/
import Derived.Test.YtibmhhdgcbaofaaDoorAmRow
import Derived.Test.YtibmhhdgcbaofaaDoorAmWp
namespace Am
set_option linter.unusedVariables false
set_option linter.unusedSimpArgs false
open Go (IntKind BinOp UnOp Value Program TypeId TypeDesc Operand Oper Code Tmp World Addr Obj Act Fence)

mutual
/-- Names no block. -/
def V.plain : V → Bool
  | .b _ | .i _ _ | .s _ | .nf | .nifc => true
  | .p a => a.isNone
  | .sl a _ _ _ => a.isNone
  | .m r => r.isNone
  | .f (.fn _) vs => V.plains vs
  | .f (.yl _) _ => false
  | .ifc _ v => V.plain v
  | .agg vs => V.plains vs
  | .tup vs => V.plains vs
def V.plains : List V → Bool
  | [] => true
  | v :: vs => V.plain v && V.plains vs
end

mutual
theorem VR.plain {e e' : Emb} : ∀ {v : V} {u : Value}, VR e v u → v.plain = true → VR e' v u
  | _, _, .b x, _ => .b x
  | _, _, .i k n, _ => .i k n
  | _, _, .s s, _ => .s s
  | _, _, .p0, _ => .p0
  | _, _, .p b r f l h, hp => by simp [V.plain] at hp
  | _, _, .sl0 ex, _ => .sl0 ex
  | _, _, .sl b r len cap c ex l a h h1 h2 h3 h4, hp => by simp [V.plain] at hp
  | _, _, .m0, _ => .m0
  | _, _, .m b l h, hp => by simp [V.plain] at hp
  | _, _, .fn f vs ws h, hp => .fn f vs ws (VRL.plain h (by simpa [V.plain] using hp))
  | _, _, .yl b l h, hp => by simp [V.plain] at hp
  | _, _, .nf, _ => .nf
  | _, _, .ifc t v w h, hp => .ifc t v w (VR.plain h (by simpa [V.plain] using hp))
  | _, _, .nifc, _ => .nifc
  | _, _, .agg vs ws h, hp => .agg vs ws (VRL.plain h (by simpa [V.plain] using hp))
  | _, _, .tup vs ws h, hp => .tup vs ws (VRL.plain h (by simpa [V.plain] using hp))
theorem VRL.plain {e e' : Emb} : ∀ {vs : List V} {us : List Value}, VRL e vs us → V.plains vs = true → VRL e' vs us
  | _, _, .nil, _ => .nil
  | _, _, .cons v w vs ws h hs, hp => by
    simp only [V.plains, Bool.and_eq_true] at hp
    exact .cons v w vs ws (VR.plain h hp.1) (VRL.plain hs hp.2)
end

mutual
/-- What is known of the elder blocks alone. -/
theorem VR.back {e e' : Emb} (he : e.le e') : ∀ {v : V} {u0 u : Value}, VR e v u0 → VR e' v u → VR e v u
  | _, _, _, .b x, h => by cases h; exact .b x
  | _, _, _, .i k n, h => by cases h; exact .i k n
  | _, _, u, .s s, h => by
    obtain ⟨s', hs, he'⟩ := h.s_inv
    rw [hs, ← he']; exact .s s'
  | _, _, _, .p0, h => by cases h; exact .p0
  | _, _, _, .p b r f l h0, h => by
    cases h with
    | p _ _ _ l' h1 => rw [he _ _ h0] at h1; cases h1; exact .p b r f l h0
  | _, _, _, .sl0 ex, h => by cases h; exact .sl0 ex
  | _, _, _, .sl b r len cap c ex l a h0 h1 h2 h3 h4, h => by
    cases h with
    | sl _ _ _ _ c' _ l' a' g0 g1 g2 g3 g4 => rw [he _ _ h0] at g0; cases g0; exact .sl b r len cap c' ex l a' h0 g1 g2 g3 g4
  | _, _, _, .m0, h => by cases h; exact .m0
  | _, _, _, .m b l h0, h => by
    cases h with
    | m _ l' h1 => rw [he _ _ h0] at h1; cases h1; exact .m b l h0
  | _, _, _, .fn f vs ws h0, h => by
    cases h with
    | fn _ _ ws' h1 => exact .fn f vs ws' (VRL.back he h0 h1)
  | _, _, _, .yl b l h0, h => by
    cases h with
    | yl _ l' h1 => rw [he _ _ h0] at h1; cases h1; exact .yl b l h0
  | _, _, _, .nf, h => by cases h; exact .nf
  | _, _, _, .ifc t v w h0, h => by
    cases h with
    | ifc _ _ w' h1 => exact .ifc t v w' (VR.back he h0 h1)
  | _, _, _, .nifc, h => by cases h; exact .nifc
  | _, _, _, .agg vs ws h0, h => by
    cases h with
    | agg _ ws' h1 => exact .agg vs ws' (VRL.back he h0 h1)
  | _, _, _, .tup vs ws h0, h => by
    cases h with
    | tup _ ws' h1 => exact .tup vs ws' (VRL.back he h0 h1)
theorem VRL.back {e e' : Emb} (he : e.le e') : ∀ {vs : List V} {us0 us : List Value}, VRL e vs us0 → VRL e' vs us → VRL e vs us
  | _, _, _, .nil, h => by cases h; exact .nil
  | _, _, _, .cons v w vs ws h0 hs0, h => by
    cases h with
    | cons _ w' _ ws' h1 hs1 => exact .cons v w' vs ws' (VR.back he h0 h1) (VRL.back he hs0 hs1)
end

theorem CR.back {e e' : Emb} (he : e.le e') {v : V} {u0 u : Value} (h0 : CR e v u0) (h : CR e' v u) : CR e v u := ⟨h0.1.back he h.1, h.2⟩

theorem BlkR.back {C : Cx} {e e' : Emb} (he : e.le e') {x : Blk} {l : Loc} {w w' : World} (h0 : BlkR C e x l w) (h : BlkR C e' x l w') : BlkR C e x l w' := by
  cases x with
  | rows k rs ro =>
    obtain ⟨a, b⟩ := h
    refine ⟨a, fun r row hr => ⟨(b r row hr).1, fun j v hj => ?_⟩⟩
    obtain ⟨u0, _, c0, _⟩ := (h0.2 r row hr).2 j v hj
    obtain ⟨u, c1, c2, c3⟩ := (b r row hr).2 j v hj
    exact ⟨u, c1, c0.back he c2, c3⟩
  | bytes bs ro => exact h
  | map es =>
    obtain ⟨ces0, cl0, a0, b0, c0⟩ := h0
    obtain ⟨ces, cl, a, b, c⟩ := h
    exact ⟨ces, cl, a, b0.back he b, c0.back he c⟩
  | iter s pos => exact h
  | loop L =>
    obtain ⟨r0, a0, ⟨b1, b2, b3, b4, b5⟩, c0⟩ := h0
    obtain ⟨r, a, ⟨d1, d2, d3, d4, d5⟩, c⟩ := h
    exact ⟨r, a, ⟨d1, d2, d3, fun n => (b4 n).back he (d4 n), d5⟩, c⟩

/-- What is in it names no block. -/
def Blk.plain : Blk → Bool
  | .rows _ rs _ => rs.all V.plains
  | .bytes _ _ => true
  | .map es => V.plains (es.map (·.1)) && V.plains (es.map (·.2))
  | .iter _ _ => true
  | .loop _ => false
theorem V.plains_get : ∀ {vs : List V} {j : Nat} {v : V}, V.plains vs = true → vs[j]? = some v → v.plain = true
  | [], j, v, _, h => by simp at h
  | x :: xs, 0, v, hp, h => by simp at h; subst h; simp only [V.plains, Bool.and_eq_true] at hp; exact hp.1
  | x :: xs, j + 1, v, hp, h => by simp only [V.plains, Bool.and_eq_true] at hp; exact V.plains_get hp.2 (by simpa using h)
theorem BlkR.plain {C : Cx} {e e' : Emb} {x : Blk} {l : Loc} {w : World} (h : BlkR C e x l w) (hp : x.plain = true) : BlkR C e' x l w := by
  cases x with
  | rows k rs ro =>
    obtain ⟨a, b⟩ := h
    refine ⟨a, fun r row hr => ⟨(b r row hr).1, fun j v hj => ?_⟩⟩
    obtain ⟨u, c1, c2, c3⟩ := (b r row hr).2 j v hj
    have hrow : V.plains row = true := by
      simp only [Blk.plain, List.all_eq_true] at hp
      exact hp row (List.mem_of_getElem? hr)
    exact ⟨u, c1, ⟨c2.1.plain (V.plains_get hrow hj), c2.2⟩, c3⟩
  | bytes bs ro => exact h
  | map es =>
    simp only [Blk.plain, Bool.and_eq_true] at hp
    obtain ⟨ces, cl, a, b, c⟩ := h
    exact ⟨ces, cl, a, b.plain hp.1, c.plain hp.2⟩
  | iter s pos => exact h
  | loop L => cases hp

/-- The answer (v1, h1) of a call at h may be said to be (v, h'). -/
def Abs (h : H) (v1 : V) (h1 : H) (v : V) (h' : H) : Prop := ∀ (C : Cx) (B : Nat) (e e' : Emb) (w w' : World) (u : Value), Sim C B e h w → VR e' v1 u → Stp C B e h w e' h1 w' → ∃ e'', VR e'' v u ∧ Stp C B e h w e'' h' w'

theorem Abs.refl {h h1 : H} {v : V} : Abs h v h1 v h1 := fun C B e e' w w' u s hv st => ⟨e', hv, st⟩

/-- The elder blocks are as they were. -/
def Kept (h h1 : H) : Prop := h.nx ≤ h1.nx ∧ ∀ b, b < h.nx → h1.get b = h.get b
theorem Kept.refl {h : H} : Kept h h := ⟨Nat.le_refl _, fun _ _ => rfl⟩
theorem Kept.trans {a b c : H} (h : Kept a b) (h' : Kept b c) : Kept a c := ⟨Nat.le_trans h.1 h'.1, fun i hi => (h'.2 i (Nat.lt_of_lt_of_le hi h.1)).trans (h.2 i hi)⟩
theorem Kept.push {h h1 : H} (k : Kept h h1) {x : Blk} : Kept h (h1.push x) := ⟨Nat.le_succ_of_le k.1, fun b hb => by rw [H.get_push, if_neg (by have := k.1; omega)]; exact k.2 b hb⟩
theorem Kept.set {h h1 : H} (k : Kept h h1) {i : Nat} {x : Blk} (hi : h.nx ≤ i) : Kept h (h1.set i x) := ⟨k.1, fun b hb => by rw [H.get_set, if_neg (by omega)]; exact k.2 b hb⟩
theorem Kept.kill {h h1 : H} (k : Kept h h1) {i : Nat} (hi : h.nx ≤ i) : Kept h (h1.kill i) := ⟨k.1, fun b hb => by rw [H.get_kill, if_neg (by omega)]; exact k.2 b hb⟩
theorem kept_refl {h : H} : Kept h h = True := eq_true Kept.refl
theorem kept_push {h h1 : H} {x : Blk} (hn : h.nx ≤ h1.nx) : Kept h (h1.push x) = Kept h h1 := by
  refine propext ⟨fun k => ⟨hn, fun b hb => ?_⟩, fun k => ⟨Nat.le_succ_of_le hn, fun b hb => ?_⟩⟩
  · have := k.2 b hb
    rwa [H.get_push, if_neg (by omega)] at this
  · rw [H.get_push, if_neg (by omega)]; exact k.2 b hb
theorem kept_set {h h1 : H} {i : Nat} {x : Blk} (hn : h.nx ≤ i) : Kept h (h1.set i x) = Kept h h1 := by
  refine propext ⟨fun k => ⟨k.1, fun b hb => ?_⟩, fun k => ⟨k.1, fun b hb => ?_⟩⟩
  · have := k.2 b hb
    rwa [H.get_set, if_neg (by omega)] at this
  · rw [H.get_set, if_neg (by omega)]; exact k.2 b hb
theorem kept_kill {h h1 : H} {i : Nat} (hn : h.nx ≤ i) : Kept h (h1.kill i) = Kept h h1 := by
  refine propext ⟨fun k => ⟨k.1, fun b hb => ?_⟩, fun k => ⟨k.1, fun b hb => ?_⟩⟩
  · have := k.2 b hb
    rwa [H.get_kill, if_neg (by omega)] at this
  · rw [H.get_kill, if_neg (by omega)]; exact k.2 b hb

theorem Stp.forget {C : Cx} {B : Nat} {e e' : Emb} {h h1 : H} {w w' : World} (s : Sim C B e h w) (st : Stp C B e h w e' h1 w') (hk : Kept h h1) : Stp C B e h w e h w' := by
  refine ⟨Emb.le_refl _, ⟨fun b x hb => ?_, s.inj, s.dom, Nat.le_trans s.low st.grow, s.gl⟩, fun c o => .inr o, fun c o => .inr o, st.keep, st.grow, Nat.le_refl _, st.sky⟩
  obtain ⟨l, hl, hr, hlt, ho⟩ := s.blk b x hb
  obtain ⟨l', hl', hr', _, _⟩ := st.sim.blk b x ((hk.2 b (s.lt hb)).trans hb)
  rw [st.le _ _ hl] at hl'; cases hl'
  exact ⟨l, hl, hr.back st.le hr', Nat.lt_of_lt_of_le hlt st.grow, ho⟩

/-- All that was made is let go. -/
theorem Abs.forget {h h1 : H} {v : V} (hk : Kept h h1) (hp : v.plain = true) : Abs h v h1 v h :=
  fun C B e e' w w' u s hv st => ⟨e, hv.plain hp, st.forget s hk⟩

/-- One block that was made is kept. -/
theorem Stp.fresh1 {C : Cx} {B : Nat} {e e' : Emb} {h h1 : H} {w w' : World} (s : Sim C B e h w) (st : Stp C B e h w e' h1 w') (hk : Kept h h1) {b : Nat} {x : Blk} {l : Loc} (hb : h1.get b = some x) (hn : h.nx ≤ b) (ho : x.own = true) (hp : x.plain = true) (hl : e' b = some l) :
    Stp C B e h w (e.add h.nx l) (h.push x) w' := by
  obtain ⟨l', hl', hr', hlt', ho'⟩ := st.sim.blk b x hb
  rw [hl] at hl'; cases hl'
  have hnew : w.heap.size ≤ l.cb := by
    rcases st.own l.cb ⟨b, x, l, hb, ho, hl, rfl⟩ with h2 | ⟨b', x', l', hb', hx', hl', hcb⟩
    · exact h2
    · have hlt := s.lt hb'
      exact absurd hcb (st.sim.inj b' b x' x l' l ((hk.2 b' hlt).trans hb') hb hx' (by omega) (st.le _ _ hl') hl)
  have f := st.forget s hk
  have hle : e.le (e.add h.nx l) := Emb.le_add l s.fresh
  have old : ∀ c y m, h.get c = some y → e.add h.nx l c = some m → e c = some m := by
    intro c y m hc hm
    have hne : c ≠ h.nx := Nat.ne_of_lt (s.lt hc)
    simpa [Emb.add, hne] using hm
  have far : ∀ c y m, h.get c = some y → e c = some m → m.cb ≠ l.cb := by
    intro c y m hc hm
    obtain ⟨m', hm', _, hlt, _⟩ := s.blk c y hc
    rw [hm] at hm'; cases hm'
    omega
  have gp : ∀ c y, (h.push x).get c = some y → (c = h.nx ∧ y = x) ∨ (c ≠ h.nx ∧ h.get c = some y) := by
    intro c y hc
    rw [H.get_push] at hc
    by_cases hcn : c = h.nx
    · rw [if_pos hcn] at hc; exact .inl ⟨hcn, (Option.some.inj hc).symm⟩
    · rw [if_neg hcn] at hc; exact .inr ⟨hcn, hc⟩
  refine ⟨hle, ⟨fun c y hc => ?_, ?_, ?_, f.sim.low, fun c m hm => hle _ _ (s.gl c m hm)⟩, fun c o => ?_, fun c o => ?_, st.keep, st.grow, Nat.le_succ _, st.sky⟩
  · rcases gp c y hc with ⟨rfl, rfl⟩ | ⟨hne, hc'⟩
    · exact ⟨l, Emb.add_same _ _ _, hr'.plain hp, hlt', ho'⟩
    · obtain ⟨m, hm, hr, hlt, ho⟩ := f.sim.blk c y hc'
      exact ⟨m, hle _ _ hm, hr.mono hle, hlt, ho⟩
  · intro c c' y y' m m' hc hc' ho hne hm hm'
    rcases gp c y hc with ⟨rfl, rfl⟩ | ⟨hne1, hc1⟩ <;> rcases gp c' y' hc' with ⟨rfl, rfl⟩ | ⟨hne2, hc2⟩
    · exact absurd rfl hne
    · rw [Emb.add_same] at hm; cases hm
      exact (far c' y' m' hc2 (old _ _ _ hc2 hm')).symm
    · rw [Emb.add_same] at hm'; cases hm'
      exact far c y m hc1 (old _ _ _ hc1 hm)
    · exact s.inj c c' y y' m m' hc1 hc2 ho hne (old _ _ _ hc1 hm) (old _ _ _ hc2 hm')
  · intro c m hm
    unfold Emb.add at hm
    show c < h.nx + 1
    by_cases hcn : c = h.nx
    · omega
    · rw [if_neg hcn] at hm; have := s.dom c m hm; omega
  · obtain ⟨i, y, m, hi, hy, hm, rfl⟩ := o
    rcases gp i y hi with ⟨rfl, rfl⟩ | ⟨hne, hi'⟩
    · rw [Emb.add_same] at hm; cases hm; exact .inl hnew
    · exact .inr ⟨i, y, m, hi', hy, old _ _ _ hi' hm, rfl⟩
  · obtain ⟨i, y, m, hi, hm, rfl⟩ := o
    rcases gp i y hi with ⟨rfl, rfl⟩ | ⟨hne, hi'⟩
    · rw [Emb.add_same] at hm; cases hm; exact .inl hnew
    · exact .inr ⟨i, y, m, hi', old _ _ _ hi' hm, rfl⟩

/-- A slice of a fresh block. -/
theorem Abs.slice1 {h h1 : H} (hk : Kept h h1) {b r len cap : Nat} {ex : Bool} {x : Blk} (hb : h1.get b = some x) (hn : h.nx ≤ b) (ho : x.own = true) (hp : x.plain = true) :
    Abs h (.sl (some (b, r)) len cap ex) h1 (.sl (some (h.nx, r)) len cap ex) (h.push x) := by
  intro C B e e' w w' u s hv st
  cases hv with
  | sl _ _ _ _ c _ l a h0 h1 h2 h3 h4 => exact ⟨e.add h.nx l, .sl h.nx r len cap c ex l a (Emb.add_same _ _ _) h1 h2 h3 h4, st.fresh1 s hk hb hn ho hp h0⟩
/-- A slice of a fresh block, and something plain. -/
theorem Abs.slice2 {h h1 : H} (hk : Kept h h1) {b r len cap : Nat} {ex : Bool} {x : Blk} (hb : h1.get b = some x) (hn : h.nx ≤ b) (ho : x.own = true) (hp : x.plain = true) {vs : List V} (hvs : V.plains vs = true) :
    Abs h (.tup (.sl (some (b, r)) len cap ex :: vs)) h1 (.tup (.sl (some (h.nx, r)) len cap ex :: vs)) (h.push x) := by
  intro C B e e' w w' u s hv st
  cases hv with
  | tup _ ws hl =>
    obtain ⟨ws⟩ := ws
    cases hl with
    | cons _ u0 _ us hv hs =>
      cases hv with
      | sl _ _ _ _ c _ l a h0 h1 h2 h3 h4 => exact ⟨e.add h.nx l, .tup _ _ (.cons _ _ _ _ (.sl h.nx r len cap c ex l a (Emb.add_same _ _ _) h1 h2 h3 h4) (hs.plain hvs)), st.fresh1 s hk hb hn ho hp h0⟩
theorem Abs.eq {h h1 h' : H} {v1 v : V} (hv : v1 = v) (hh : h1 = h') : Abs h v1 h1 v h' := by subst hv; subst hh; exact Abs.refl
theorem Abs.out {h h1 : H} {v1 v : V} (hv : v1 = v) (hp : v.plain = true) (hk : Kept h h1) : Abs h v1 h1 v h := by subst hv; exact Abs.forget hk hp
theorem Abs.trans {h h1 h2 h3 : H} {v1 v2 v3 : V} (a : Abs h v1 h1 v2 h2) (b : Abs h v2 h2 v3 h3) : Abs h v1 h1 v3 h3 := by
  intro C B e e' w w' u s hv st
  obtain ⟨e2, hv2, st2⟩ := a C B e e' w w' u s hv st
  exact b C B e e2 w w' u s hv2 st2

/-! ### What was proved of a function, taken for granted -/
def Prog.add (pr : Prog) (f : Nat) (g : List V → H → Option (V × H)) : Prog := { pr with ext := fun i => if i = f then some g else pr.ext i }
theorem ext_add_same {pr : Prog} {f : Nat} {g : List V → H → Option (V × H)} : (pr.add f g).ext f = some g := by simp [Prog.add]
theorem ext_add_ne {pr : Prog} {f i : Nat} {g : List V → H → Option (V × H)} (h : i ≠ f) : (pr.add f g).ext i = pr.ext i := by simp [Prog.add, h]
theorem fn_add {pr : Prog} {f i : Nat} {g : List V → H → Option (V × H)} : (pr.add f g).fn i = pr.fn i := rfl

theorem ProgOk.add {P : Program} {pr : Prog} (hp : ProgOk P pr) {f : Nat} {af : AFunc} {g : List V → H → Option (V × H)} (hf : pr.fn f = some af)
    (hg : ∀ args h v h', g args h = some (v, h') → wpF pr af args h (fun v1 h1 => Abs h v1 h1 v h')) : ProgOk P (pr.add f g) := by
  refine ⟨hp.fn, ?_, hp.draw⟩
  intro f' g' hf' args h v h' hev B e w cargs F n hv s hF
  by_cases hff : f' = f
  · subst hff
    rw [ext_add_same] at hf'; cases hf'
    obtain ⟨fn, hP, hc⟩ := hp.fn f' af hf
    obtain ⟨hl, m, ex, t', h1, hrun, hres⟩ := hg args h v h' hev
    have hfn : ∃ v1, evFn (runN pr m) (fun b s => iter b m s) af args h = some (v1, h1) ∧ Abs h v1 h1 v h' := by
      cases ex with
      | exit id => exact hres.elim
      | normal =>
        obtain ⟨vs, a, b⟩ := hres
        exact ⟨_, by unfold evFn; rw [if_pos hl, hrun]; simp [a], b⟩
      | ret =>
        obtain ⟨vs, a, b⟩ := hres
        exact ⟨_, by unfold evFn; rw [if_pos hl, hrun]; simp [a], b⟩
    obtain ⟨v1, hrun1, habs⟩ := hfn
    have hR := run_sound hp m
    obtain ⟨h2, h3⟩ := fn_sound hR (hp.draw _ hR) m hP hc hrun1 (F := F) n hv s hF
    refine InvPost.mono h2 ?_
    rintro u w' ⟨e', hu, st⟩
    exact habs _ B e e' w w' u s hu st
  · rw [ext_add_ne hff] at hf'
    exact hp.ext f' g' hf' args h v h' hev B e w cargs F n hv s hF

/-- What 'ExtOk' asks, of one function. -/
def ExtFor (P : Program) (f : Nat) (g : List V → H → Option (V × H)) : Prop := ∀ (args : List V) (h : H) (v : V) (h' : H), g args h = some (v, h') →
  ∀ (B : Nat) (e : Emb) (w : World) (cargs : Array Value) (F : Fence) (n : Nat), VRL e args cargs.toList → Sim (CC P) B e h w → wideF F → InvPost F n P (CallPost P B e h w v h') ((Go.callFunc f cargs).run P w)
theorem ProgOk.addFor {P : Program} {pr : Prog} (hp : ProgOk P pr) {f : Nat} {g : List V → H → Option (V × H)} (hg : ExtFor P f g) : ProgOk P (pr.add f g) := by
  refine ⟨hp.fn, ?_, hp.draw⟩
  intro f' g' hf' args h v h' hev B e w cargs F n hv s hF
  by_cases hff : f' = f
  · subst hff
    rw [ext_add_same] at hf'; cases hf'
    exact hg args h v h' hev B e w cargs F n hv s hF
  · rw [ext_add_ne hff] at hf'
    exact hp.ext f' g' hf' args h v h' hev B e w cargs F n hv s hF

/-- A function that takes nothing and that the machine runs on the empty heap. -/
def xConst (v : V) (args : List V) (h : H) : Option (V × H) :=
  match args with
  | [] => some (v, h)
  | _ => none
theorem ExtFor.closed {P : Program} {pr : Prog} (hp : ProgOk P pr) {n f : Nat} {v : V} {h1 : H} (hx : pr.ext f = none) (hrun : runN pr n (.fn f) [] ⟨4096, .e⟩ = some (v, h1)) (hpl : v.plain = true) : ExtFor P f (xConst v) := by
  intro args h v' h' hev B e w cargs F k hv s hF
  unfold xConst at hev
  split at hev
  · cases hev
    have hno : ∀ b x, (⟨4096, .e⟩ : H).get b = some x → False := fun b x hb => by simp [H.get, Tr.get] at hb
    have s0 : Sim (CC P) w.heap.size (glOf P) ⟨4096, .e⟩ w := ⟨fun b x hb => (hno b x hb).elim, fun b _ x _ _ _ hb => (hno b x hb).elim, fun b l h => glOf_lt h, Nat.le_refl _, fun _ _ h => h⟩
    obtain ⟨cargs⟩ := cargs
    cases hv
    cases n with
    | zero => cases hrun
    | succ n =>
      simp only [runN, evCal, hx] at hrun
      cases hf : pr.fn f with
      | none => rw [hf] at hrun; cases hrun
      | some af =>
        rw [hf] at hrun
        obtain ⟨fn, hP, hc⟩ := hp.fn f af hf
        have hR := run_sound hp n
        obtain ⟨h2, _⟩ := fn_sound hR (hp.draw _ hR) n hP hc hrun (F := F) k .nil s0 hF
        refine InvPost.mono h2 ?_
        rintro u w' ⟨e', hu, st⟩
        refine ⟨e, hu.plain hpl, Stp.more s (fun c hc => st.keep c hc ?_) st.grow st.sky⟩
        rintro ⟨b, x, l, hb, _⟩
        exact hno b x hb
  · cases hev
theorem closed_of_yes {P : Program} {pr : Prog} (hp : ProgOk P pr) {n f : Nat} (hx : pr.ext f = none) (hrun : yes (runN pr n (.fn f) [] ⟨4096, .e⟩) = true) : ExtFor P f (xConst (.b true)) := by
  obtain ⟨h', hr⟩ := yes_some hrun
  exact ExtFor.closed hp hx hr rfl

/-- A law that takes nothing, and that the machine answers by true. -/
theorem closed_callsOk {P : Program} {pr : Prog} (hp : ProgOk P pr) {n f : Nat} (hx : pr.ext f = none) (h : yes (runN pr n (.fn f) [] ⟨4096, .e⟩) = true) (w : World) : Go.Calls P f #[] w fun E w' => E = .returned (.bool true) ∧ Go.RowKit.Below w.heap.size w w' := by
  obtain ⟨h', hr⟩ := yes_some h
  have hno : ∀ b x, (⟨4096, .e⟩ : H).get b = some x → False := fun b x hb => by simp [H.get, Tr.get] at hb
  have := calls_of_run hp (e := glOf P) (w := w) (cargs := #[]) hx hr .nil ⟨fun b x hb => (hno b x hb).elim, fun b _ x _ _ _ hb => (hno b x hb).elim, fun b l h => glOf_lt h, Nat.le_refl _, fun _ _ h => h⟩ (fun b x hb => (hno b x hb).elim)
  refine this.mono ?_
  rintro E w' ⟨u, e', rfl, hu, hb⟩
  cases hu
  exact ⟨rfl, hb⟩

end Am
