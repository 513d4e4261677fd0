/- AmGc: a call's answer said at a heap that is swept: what is let go is left out, what was made is numbered anew. -/
import Derived.Test.YtkhnielggkcbiaaGreatDoorAmAll3
namespace Am
set_option linter.all false
open Go (IntKind BinOp UnOp Value Program TypeId TypeDesc Operand Oper Code Tmp World Addr Obj Act Fence)

def Cal.rel (R : Nat → Nat → Prop) : Cal → Cal → Prop
  | .fn f, .fn g => f = g
  | .yl b, .yl c => R b c
  | _, _ => False
mutual
/-- The same value, but that the blocks are named otherwise. -/
def V.rel (R : Nat → Nat → Prop) : V → V → Prop
  | .b x, .b y => x = y
  | .i k n, .i k' n' => k = k' ∧ n = n'
  | .s x, .s y => x = y
  | .p none, .p none => True
  | .p (some (a, r, o)), .p (some (a', r', o')) => R a a' ∧ r = r' ∧ o = o'
  | .sl none n c e, .sl none n' c' e' => n = n' ∧ c = c' ∧ e = e'
  | .sl (some (a, r)) n c e, .sl (some (a', r')) n' c' e' => R a a' ∧ r = r' ∧ n = n' ∧ c = c' ∧ e = e'
  | .m none, .m none => True
  | .m (some a), .m (some a') => R a a'
  | .f c vs, .f c' vs' => c.rel R c' ∧ V.rels R vs vs'
  | .nf, .nf => True
  | .ifc t v, .ifc t' v' => t = t' ∧ V.rel R v v'
  | .nifc, .nifc => True
  | .agg vs, .agg vs' => V.rels R vs vs'
  | .tup vs, .tup vs' => V.rels R vs vs'
  | _, _ => False
def V.rels (R : Nat → Nat → Prop) : List V → List V → Prop
  | [], [] => True
  | v :: vs, w :: ws => V.rel R v w ∧ V.rels R vs ws
  | _, _ => False
end
mutual
theorem VR.rel {R : Nat → Nat → Prop} {e e' : Emb} (hR : ∀ b b', R b b' → ∀ l, e' b' = some l → e b = some l) : ∀ {v1 v : V} {u : Value}, VR e' v1 u → V.rel R v v1 → VR e v u
  | _, v, _, .b x, h => by cases v <;> simp [V.rel] at h; subst h; exact .b _
  | _, v, _, .i k n, h => by cases v <;> simp [V.rel] at h; obtain ⟨rfl, rfl⟩ := h; exact .i _ _
  | _, v, _, .s s, h => by cases v <;> simp [V.rel] at h; subst h; exact .s s
  | _, v, _, .p0, h => by
    cases v <;> first | (simp [V.rel] at h; done) | skip
    rename_i a
    cases a with
    | none => exact .p0
    | some a => obtain ⟨b, r, f⟩ := a; simp [V.rel] at h
  | _, v, _, .p b r f l g, h => by
    cases v <;> first | (simp [V.rel] at h; done) | skip
    rename_i a
    cases a with
    | none => simp [V.rel] at h
    | some a =>
      obtain ⟨b', r', f'⟩ := a
      obtain ⟨h1, rfl, rfl⟩ : R b' b ∧ r' = r ∧ f' = f := h
      exact .p _ _ _ l (hR _ _ h1 _ g)
  | _, v, _, .sl0 ex, h => by
    cases v <;> first | (simp [V.rel] at h; done) | skip
    rename_i a n c e
    cases a with
    | none => obtain ⟨rfl, rfl, rfl⟩ : n = 0 ∧ c = 0 ∧ e = ex := h; exact .sl0 _
    | some a => obtain ⟨b, r⟩ := a; simp [V.rel] at h
  | _, v, _, .sl b r len cap c ex l a g h1 h2 h3 h4, h => by
    cases v <;> first | (simp [V.rel] at h; done) | skip
    rename_i a' n' c' e'
    cases a' with
    | none => simp [V.rel] at h
    | some a' =>
      obtain ⟨b', r'⟩ := a'
      obtain ⟨q1, rfl, rfl, rfl, rfl⟩ : R b' b ∧ r' = r ∧ n' = len ∧ c' = cap ∧ e' = ex := h
      exact .sl _ _ _ _ c _ l a (hR _ _ q1 _ g) h1 h2 h3 h4
  | _, v, _, .m0, h => by
    cases v <;> first | (simp [V.rel] at h; done) | skip
    rename_i a
    cases a with
    | none => exact .m0
    | some a => simp [V.rel] at h
  | _, v, _, .m b l g, h => by
    cases v <;> first | (simp [V.rel] at h; done) | skip
    rename_i a
    cases a with
    | none => simp [V.rel] at h
    | some a => have h : R a b := h; exact .m _ l (hR _ _ h _ g)
  | _, v, _, .fn f vs ws g, h => by
    cases v <;> simp [V.rel] at h
    rename_i c vs'
    obtain ⟨h1, h2⟩ := h
    cases c with
    | fn f' => have h1 : f' = f := h1; subst h1; exact .fn _ _ ws (VRL.rel hR g h2)
    | yl b => cases h1
  | _, v, _, .yl b l g, h => by
    cases v <;> simp [V.rel] at h
    rename_i c vs'
    obtain ⟨h1, h2⟩ := h
    cases c with
    | fn f' => cases h1
    | yl b' =>
      cases vs' with
      | nil => exact .yl _ l (hR _ _ h1 _ g)
      | cons _ _ => cases h2
  | _, v, _, .nf, h => by cases v <;> simp [V.rel] at h; exact .nf
  | _, v, _, .ifc t x w g, h => by
    cases v <;> simp [V.rel] at h
    obtain ⟨rfl, h2⟩ := h
    exact .ifc _ _ w (VR.rel hR g h2)
  | _, v, _, .nifc, h => by cases v <;> simp [V.rel] at h; exact .nifc
  | _, v, _, .agg vs ws g, h => by cases v <;> simp [V.rel] at h; exact .agg _ ws (VRL.rel hR g h)
  | _, v, _, .tup vs ws g, h => by cases v <;> simp [V.rel] at h; exact .tup _ ws (VRL.rel hR g h)
theorem VRL.rel {R : Nat → Nat → Prop} {e e' : Emb} (hR : ∀ b b', R b b' → ∀ l, e' b' = some l → e b = some l) : ∀ {vs1 vs : List V} {us : List Value}, VRL e' vs1 us → V.rels R vs vs1 → VRL e vs us
  | _, [], _, .nil, _ => .nil
  | _, _ :: _, _, .nil, h => by simp [V.rels] at h
  | _, [], _, .cons .., h => by simp [V.rels] at h
  | _, v :: vs, _, .cons v1 w vs1 ws g gs, h => .cons _ _ _ _ (VR.rel hR g h.1) (VRL.rel hR gs h.2)
end
theorem V.rel_flat {R : Nat → Nat → Prop} {v v1 : V} (h : V.rel R v v1) : v.flat = v1.flat := by
  cases v <;> cases v1 <;> first | rfl | (simp [V.rel] at h; done)
theorem V.rels_len {R : Nat → Nat → Prop} : ∀ {vs ws : List V}, V.rels R vs ws → vs.length = ws.length
  | [], [], _ => rfl
  | [], _ :: _, h => by simp [V.rels] at h
  | _ :: _, [], h => by simp [V.rels] at h
  | _ :: vs, _ :: ws, h => by simp [V.rels_len h.2]
theorem V.rels_get {R : Nat → Nat → Prop} : ∀ {vs ws : List V} {j : Nat} {v : V}, V.rels R vs ws → vs[j]? = some v → ∃ w, ws[j]? = some w ∧ V.rel R v w
  | [], [], j, v, _, hj => by simp at hj
  | [], _ :: _, _, _, h, _ => by simp [V.rels] at h
  | _ :: _, [], _, _, h, _ => by simp [V.rels] at h
  | x :: vs, y :: ws, 0, v, h, hj => by simp at hj; subst hj; exact ⟨y, by simp, h.1⟩
  | x :: vs, y :: ws, j + 1, v, h, hj => by obtain ⟨w, a, b⟩ := V.rels_get (j := j) h.2 (by simpa using hj); exact ⟨w, by simpa using a, b⟩
def rowsRel (R : Nat → Nat → Prop) : List (List V) → List (List V) → Prop
  | [], [] => True
  | v :: vs, w :: ws => V.rels R v w ∧ rowsRel R vs ws
  | _, _ => False
theorem rowsRel_get {R : Nat → Nat → Prop} : ∀ {vs ws : List (List V)} {j : Nat} {v : List V}, rowsRel R vs ws → vs[j]? = some v → ∃ w, ws[j]? = some w ∧ V.rels R v w
  | [], [], j, v, _, hj => by simp at hj
  | [], _ :: _, _, _, h, _ => by simp [rowsRel] at h
  | _ :: _, [], _, _, h, _ => by simp [rowsRel] at h
  | x :: vs, y :: ws, 0, v, h, hj => by simp at hj; subst hj; exact ⟨y, by simp, h.1⟩
  | x :: vs, y :: ws, j + 1, v, h, hj => by obtain ⟨w, a, b⟩ := rowsRel_get (j := j) h.2 (by simpa using hj); exact ⟨w, by simpa using a, b⟩
def Blk.rel (R : Nat → Nat → Prop) : Blk → Blk → Prop
  | .rows k rs ro, .rows k' rs' ro' => k = k' ∧ ro = ro' ∧ rowsRel R rs rs'
  | .bytes bs ro, .bytes bs' ro' => bs = bs' ∧ ro = ro'
  | .map es, .map es' => V.rels R (es.map (·.1)) (es'.map (·.1)) ∧ V.rels R (es.map (·.2)) (es'.map (·.2))
  | .iter s p, .iter s' p' => s = s' ∧ p = p'
  | _, _ => False
theorem Blk.rel_own {R : Nat → Nat → Prop} {x y : Blk} (h : x.rel R y) : x.own = y.own := by
  cases x <;> cases y <;> simp [Blk.rel] at h <;> simp [Blk.own, h]
theorem BlkR.rel {C : Cx} {R : Nat → Nat → Prop} {e e' : Emb} (hR : ∀ b b', R b b' → ∀ l, e' b' = some l → e b = some l) {x x1 : Blk} {l : Loc} {w : World} (h : BlkR C e' x1 l w) (hx : x.rel R x1) : BlkR C e x l w := by
  cases x with
  | rows k rs ro =>
    cases x1 <;> simp [Blk.rel] at hx
    obtain ⟨rfl, rfl, hr⟩ := hx
    obtain ⟨a, b⟩ := h
    refine ⟨a, fun r row hrow => ?_⟩
    obtain ⟨row1, g1, g2⟩ := rowsRel_get hr hrow
    refine ⟨by rw [V.rels_len g2]; exact (b r row1 g1).1, fun j v hj => ?_⟩
    obtain ⟨v1, q1, q2⟩ := V.rels_get g2 hj
    obtain ⟨u, c1, c2, c3⟩ := (b r row1 g1).2 j v1 q1
    exact ⟨u, c1, ⟨c2.1.rel hR q2, by rw [V.rel_flat q2]; exact c2.2⟩, c3⟩
  | bytes bs ro =>
    cases x1 <;> simp [Blk.rel] at hx
    obtain ⟨rfl, rfl⟩ := hx
    exact h
  | map es =>
    cases x1 <;> simp [Blk.rel] at hx
    obtain ⟨ces, cl, a, b, c⟩ := h
    exact ⟨ces, cl, a, b.rel hR hx.1, c.rel hR hx.2⟩
  | iter s p =>
    cases x1 <;> simp [Blk.rel] at hx
    obtain ⟨rfl, rfl⟩ := hx
    exact h
  | loop L => cases x1 <;> simp [Blk.rel] at hx

/-- How blocks are named at the swept heap: the elder ones as they were, the new ones anew. -/
def GcR (h h' : H) (σ : Nat → Nat) (b b1 : Nat) : Prop := (b < h.nx ∧ b1 = b ∧ (h.get b).isSome = true) ∨ (h.nx ≤ b ∧ b < h'.nx ∧ b1 = σ b)
def gcN (h : H) (σ : Nat → Nat) (b : Nat) : Nat := if b < h.nx then b else σ b
structure Gc (h h1 h' : H) (σ : Nat → Nat) : Prop where
  nx : h.nx ≤ h'.nx
  old : ∀ b x, b < h.nx → h'.get b = some x → (h.get b).isSome = true ∧ ((h.get b = some x ∧ h1.get b = some x) ∨ ∃ x1, h1.get b = some x1 ∧ x.rel (GcR h h' σ) x1)
  new : ∀ b x, h.nx ≤ b → h'.get b = some x → b < h'.nx ∧ ∃ x1, h1.get (σ b) = some x1 ∧ x.rel (GcR h h' σ) x1
  inj : ∀ b c x y, h'.get b = some x → h'.get c = some y → gcN h σ b = gcN h σ c → b = c
theorem Abs.gc {h h1 h' : H} {v1 v : V} {σ : Nat → Nat} (g : (∀ b x, h.get b = some x → b < h.nx) → Gc h h1 h' σ) (hv : v.rel (GcR h h' σ) v1) : Abs h v1 h1 v h' := by
  intro C B e e' w w' u s hv1 st
  replace g := g fun b x hb => s.lt hb
  let e2 : Emb := fun b => if b < h.nx then e b else if b < h'.nx then e' (σ b) else none
  have eo : ∀ b, b < h.nx → e2 b = e b := fun b hb => by simp only [e2]; rw [if_pos hb]
  have en : ∀ b, h.nx ≤ b → b < h'.nx → e2 b = e' (σ b) := fun b hb hb' => by simp only [e2]; rw [if_neg (by omega), if_pos hb']
  have live : ∀ b, (h.get b).isSome = true → ∃ l, e b = some l := fun b hb => by
    obtain ⟨x, hx⟩ := Option.isSome_iff_exists.1 hb
    obtain ⟨l, hl, _⟩ := s.blk b x hx
    exact ⟨l, hl⟩
  have hR : ∀ b b', GcR h h' σ b b' → ∀ l, e' b' = some l → e2 b = some l := by
    rintro b b' (⟨h1, rfl, h3⟩ | ⟨h1, h2, rfl⟩) l hl
    · obtain ⟨l', hl'⟩ := live _ h3
      rw [st.le _ _ hl'] at hl; cases hl
      rw [eo _ h1]; exact hl'
    · rw [en _ h1 h2]; exact hl
  have le : e.le e2 := fun b l hb => by rw [eo b (s.dom b l hb)]; exact hb
  -- a block of the swept heap: where it was
  have at1 : ∀ b x, h'.get b = some x → ∃ b1 x1 l, h1.get b1 = some x1 ∧ e' b1 = some l ∧ e2 b = some l ∧ BlkR C e2 x l w' ∧ x.own = x1.own ∧ (∀ k row, x = .rows k [row] true → ∃ row1, x1 = .rows k [row1] true) ∧ b1 = gcN h σ b := by
    intro b x hb
    have wid : ∀ {x1 : Blk}, x.rel (GcR h h' σ) x1 → ∀ k row, x = .rows k [row] true → ∃ row1, x1 = .rows k [row1] true := by
      intro x1 hr k row hx
      subst hx
      cases x1 <;> simp [Blk.rel] at hr
      obtain ⟨rfl, rfl, hr⟩ := hr
      rename_i rs
      cases rs with
      | nil => simp [rowsRel] at hr
      | cons r rs => cases rs with
        | nil => exact ⟨r, rfl⟩
        | cons _ _ => simp [rowsRel] at hr
    by_cases ho : b < h.nx
    · obtain ⟨hl, h2⟩ := g.old b x ho hb
      obtain ⟨l, hl⟩ := live b hl
      rcases h2 with ⟨q1, q2⟩ | ⟨x1, q1, q2⟩
      · obtain ⟨l0, hl0, r0, _⟩ := s.blk b x q1
        rw [hl] at hl0; cases hl0
        obtain ⟨l1, hl1, r1, _⟩ := st.sim.blk b x q2
        rw [st.le _ _ hl] at hl1; cases hl1
        exact ⟨b, x, l, q2, st.le _ _ hl, by rw [eo b ho]; exact hl, (r0.back st.le r1).mono le, rfl, fun k row hx => ⟨row, hx⟩, (if_pos ho).symm⟩
      · obtain ⟨l1, hl1, r1, _⟩ := st.sim.blk b x1 q1
        rw [st.le _ _ hl] at hl1; cases hl1
        exact ⟨b, x1, l, q1, st.le _ _ hl, by rw [eo b ho]; exact hl, r1.rel hR q2, Blk.rel_own q2, wid q2, (if_pos ho).symm⟩
    · obtain ⟨hlt, x1, q1, q2⟩ := g.new b x (by omega) hb
      obtain ⟨l1, hl1, r1, _⟩ := st.sim.blk _ x1 q1
      exact ⟨σ b, x1, l1, q1, hl1, by rw [en b (by omega) hlt]; exact hl1, r1.rel hR q2, Blk.rel_own q2, wid q2, (if_neg ho).symm⟩
  have uni : ∀ {b l l' : _}, e2 b = some l → e2 b = some l' → l = l' := fun h1 h2 => by rw [h1] at h2; exact Option.some.inj h2
  refine ⟨e2, hv1.rel hR hv, ⟨le, ⟨?_, ?_, ?_, st.sim.low, fun b l hb => le _ _ (s.gl b l hb), ?_⟩, ?_, ?_, st.keep, st.grow, g.nx, st.sky⟩⟩
  · intro b x hb
    obtain ⟨b1, x1, l, q1, q2, q3, q4, q5, _⟩ := at1 b x hb
    obtain ⟨l1, hl1, _, hlt, ho⟩ := st.sim.blk b1 x1 q1
    rw [q2] at hl1; cases hl1
    exact ⟨l, q3, q4, hlt, fun h => ho (by rw [← q5]; exact h)⟩
  · intro b c x y l l' hb hc ho hne hl hl'
    obtain ⟨b1, x1, m, q1, q2, q3, _, q5, _, q6⟩ := at1 b x hb
    obtain ⟨c1, y1, m', p1, p2, p3, _, p5, _, p6⟩ := at1 c y hc
    cases uni hl q3
    cases uni hl' p3
    refine st.sim.inj b1 c1 x1 y1 _ _ q1 p1 (by rw [← q5]; exact ho) ?_ q2 p2
    exact fun h => hne (g.inj b c x y hb hc (q6.symm.trans (h.trans p6)))
  · intro b l hb
    by_cases h1 : b < h.nx
    · have := g.nx; omega
    · by_cases h2 : b < h'.nx
      · exact h2
      · simp only [e2] at hb; rw [if_neg h1, if_neg h2] at hb; cases hb
  · intro b l x hl hb
    obtain ⟨b1, x1, m, q1, q2, q3, _, q5, q7, q6⟩ := at1 b x hb
    have hlt := s.gl_lt hl
    have hb1 : b1 = b := q6.trans (if_pos hlt)
    subst hb1
    obtain ⟨h3, h4⟩ := st.sim.tab _ l x1 hl q1
    refine ⟨by rw [q5]; exact h3, fun k row hx hk => ?_⟩
    obtain ⟨row1, hx1⟩ := q7 k row hx
    exact h4 k row1 hx1 hk
  · rintro c ⟨b, x, l, hb, ho, hl, rfl⟩
    obtain ⟨b1, x1, m, q1, q2, q3, _, q5, _⟩ := at1 b x hb
    cases uni hl q3
    exact st.own _ ⟨b1, x1, l, q1, by rw [← q5]; exact ho, q2, rfl⟩
  · rintro c ⟨b, x, l, hb, hl, rfl⟩
    obtain ⟨b1, x1, m, q1, q2, q3, _⟩ := at1 b x hb
    cases uni hl q3
    exact st.img _ ⟨b1, x1, l, q1, q2, rfl⟩
end Am
