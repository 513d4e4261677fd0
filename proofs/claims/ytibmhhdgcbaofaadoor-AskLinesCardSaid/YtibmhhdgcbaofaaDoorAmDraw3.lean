/- AmDraw3: a region that draws its order: whatever the order, it comes to what the one order comes to. -/
import Derived.Test.YtibmhhdgcbaofaaDoorAmDraw2
namespace Am
set_option linter.unusedVariables false
set_option linter.unusedSimpArgs false
open Go (IntKind BinOp UnOp Value Program TypeId TypeDesc Operand Oper Code Tmp World Addr Obj Act Fence)

variable {P : Program} {B nt : Nat}

/-! ### Part of an embedding -/
def res (ι : Emb) (m : Nat) : Emb := fun b => if b < m then ι b else none
theorem res_le {ι : Emb} {m m' : Nat} (h : m ≤ m') : (res ι m).le (res ι m') := fun b l e => by
  unfold res at *
  split at e
  · rw [if_pos (by omega)]; exact e
  · cases e
theorem res_mono {ι ι' : Emb} (h : ι.le ι') (m : Nat) : (res ι m).le (res ι' m) := fun b l e => by
  unfold res at *
  split at e
  · rw [if_pos ‹_›]; exact h _ _ e
  · cases e
theorem res_lt {ι : Emb} {m b : Nat} {l : Loc} (h : res ι m b = some l) : b < m ∧ ι b = some l := by
  unfold res at h
  split at h
  · exact ⟨‹_›, h⟩
  · cases h

theorem Sim.raise {C : Cx} {ι : Emb} {m m' : Nat} {h : H} {w : World} (s : Sim C B (res ι m) h w) (hm : m ≤ m') : Sim C B (res ι m') ⟨m', h.tr⟩ w := by
  have hg : ∀ b, H.get ⟨m', h.tr⟩ b = h.get b := fun _ => rfl
  refine ⟨fun b x hb => ?_, fun b b' x x' l l' hb hb' ho hne hl hl' => ?_, fun b l hl => (res_lt hl).1, s.low, fun b l hb => res_le hm _ _ (s.gl b l hb)⟩
  · obtain ⟨l, hl, hr, h1, h2⟩ := s.blk b x hb
    exact ⟨l, res_le hm _ _ hl, hr.mono (res_le hm), h1, h2⟩
  · obtain ⟨l0, hl0, _⟩ := s.blk b x hb
    obtain ⟨l1, hl1, _⟩ := s.blk b' x' hb'
    have e0 := res_le hm _ _ hl0
    have e1 := res_le hm _ _ hl1
    rw [hl] at e0; cases e0
    rw [hl'] at e1; cases e1
    exact s.inj b b' x x' _ _ hb hb' ho hne hl0 hl1

/-- A block that lies there since, taken over. -/
theorem Stp.adopt {C : Cx} {e0 e : Emb} {h0 g : H} {w0 w : World} {x : Blk} {l : Loc} (hB : B ≤ w0.heap.size) (st : Stp C B e0 h0 w0 e g w) (hx : BlkR C (e.add g.nx l) x l w) (hge : w0.heap.size ≤ l.cb) (hlt : l.cb < w.heap.size) (himg : ¬ Img e g l.cb) :
    Stp C B e0 h0 w0 (e.add g.nx l) (g.push x) w := by
  have s := st.sim
  have hle : e.le (e.add g.nx l) := Emb.le_add l s.fresh
  have old : ∀ b y m, g.get b = some y → e.add g.nx l b = some m → e b = some m := by
    intro b y m hb hm
    have hne : b ≠ g.nx := Nat.ne_of_lt (s.lt hb)
    simpa [Emb.add, hne] using hm
  have gp : ∀ b y, (g.push x).get b = some y → (b = g.nx ∧ y = x) ∨ (b ≠ g.nx ∧ g.get b = some y) := by
    intro b y hb
    rw [H.get_push] at hb
    by_cases hbn : b = g.nx
    · rw [if_pos hbn] at hb; exact .inl ⟨hbn, (Option.some.inj hb).symm⟩
    · rw [if_neg hbn] at hb; exact .inr ⟨hbn, hb⟩
  refine ⟨Emb.le_trans st.le hle, ⟨fun b y hb => ?_, ?_, ?_, s.low, fun b l hb => hle _ _ (s.gl b l hb)⟩, fun c ho => ?_, fun c ho => ?_, st.keep, st.grow, Nat.le_trans st.nx (Nat.le_succ _), st.sky⟩
  · rcases gp b y hb with ⟨rfl, rfl⟩ | ⟨hne, hb'⟩
    · exact ⟨l, Emb.add_same _ _ _, hx, hlt, fun _ => Nat.le_trans hB hge⟩
    · obtain ⟨m, hm, hr, hlt, ho⟩ := s.blk b y hb'
      exact ⟨m, hle _ _ hm, hr.mono hle, hlt, ho⟩
  · intro b b' y y' m m' hb hb' ho hne hm hm'
    rcases gp b y hb with ⟨rfl, rfl⟩ | ⟨hne1, hb1⟩ <;> rcases gp b' y' hb' with ⟨rfl, rfl⟩ | ⟨hne2, hb2⟩
    · exact absurd rfl hne
    · rw [Emb.add_same] at hm; cases hm
      have := old b' y' m' hb2 hm'
      exact fun hh => himg ⟨b', y', m', hb2, this, hh.symm⟩
    · rw [Emb.add_same] at hm'; cases hm'
      have := old b y m hb1 hm
      exact fun hh => himg ⟨b, y, m, hb1, this, hh⟩
    · exact s.inj b b' y y' m m' hb1 hb2 ho hne (old _ _ _ hb1 hm) (old _ _ _ hb2 hm')
  · intro b m hm
    unfold Emb.add at hm
    show b < g.nx + 1
    by_cases hbn : b = g.nx
    · omega
    · rw [if_neg hbn] at hm; have := s.dom b m hm; omega
  · obtain ⟨b, y, m, hb, hy, hm, rfl⟩ := ho
    rcases gp b y hb with ⟨rfl, rfl⟩ | ⟨hne, hb'⟩
    · rw [Emb.add_same] at hm; cases hm; exact .inl hge
    · exact st.own _ ⟨b, y, m, hb', hy, old _ _ _ hb' hm, rfl⟩
  · obtain ⟨b, y, m, hb, hm, rfl⟩ := ho
    rcases gp b y hb with ⟨rfl, rfl⟩ | ⟨hne, hb'⟩
    · rw [Emb.add_same] at hm; cases hm; exact .inl hge
    · exact st.img _ ⟨b, y, m, hb', old _ _ _ hb' hm, rfl⟩

/-! ### Part of the temporaries -/
def cutT (t : Tm) : List Nat → Tm
  | [] => .e
  | d :: ds => (cutT t ds).st d (t.v d)
theorem cutT_v (t : Tm) : ∀ (ds : List Nat) (d : Nat), (cutT t ds).v d = if d ∈ ds then t.v d else .un
  | [], d => by simp [cutT, Tm.v, Tr.get]
  | d' :: ds, d => by
    simp only [cutT, Tm.v_st, cutT_v t ds d, List.mem_cons]
    by_cases h : d = d'
    · simp [h]
    · simp [h]
def cutV (a : Act) (ds : List Nat) : Operand → Value
  | .tmp d => if d ∈ ds then a.eval (.tmp d) else Go.undef
  | y => a.eval y

theorem cut_opd {e : Emb} {t : Tm} {a : Act} {ds : List Nat} {gl : Nat → Option Loc} (hgl : ∀ b l, gl b = some l → e b = some l) (hg : ∀ g, g < 4096 → ∃ l, gl g = some l ∧ l.cb = g ∧ l.sh = 0) (h : ∀ d ∈ ds, VR e (t.v d) (a.tmps.getD d Go.undef)) : OpdR e (cutT t ds) (cutV a ds) := by
  intro o x hx
  cases o with
  | tmp d =>
    simp [opd] at hx; subst hx
    simp only [Tm.ev, cutT_v, cutV]
    by_cases hd : d ∈ ds
    · rw [if_pos hd, if_pos hd]; exact h d hd
    · rw [if_neg hd, if_neg hd]; exact VR.un
  | const v =>
    simp only [opd] at hx
    obtain ⟨y, hy, rfl⟩ := Option.map_eq_some_iff.1 hx
    exact ofValue_sound hy
  | func f => simp [opd] at hx; subst hx; exact .fn f [] #[] .nil
  | global g =>
    simp only [opd] at hx
    split at hx
    · rename_i hlt
      cases hx
      obtain ⟨l, h1, h2, h3⟩ := hg g hlt
      have := VR.p (e := e) g 0 0 l (hgl _ _ h1)
      rw [h2, h3, show 0 + 0 * l.k + 0 = 0 by simp] at this
      exact this
    · cases hx

theorem compOp_noSelect {o : Oper} {x : AOp} (h : compOp P o = some x) : ∀ cs b, o.op ≠ .select cs b := by
  intro cs b hc
  simp [compOp, hc] at h
theorem compAct_noSelect {o : Oper} {x : AAct} (h : compAct P o = some x) : ∀ cs b, o.op ≠ .select cs b := by
  intro cs b hc
  unfold compAct at h
  split at h
  · rename_i y hy
    unfold compAct0 at hy
    simp only [callOf, invOf, hc] at hy
    obtain ⟨y, hy, _⟩ := Option.map_eq_some_iff.1 hy
    exact compOp_noSelect hy cs b hc
  · simp [isDefer, hc] at h

theorem cut_exec {o : Oper} {a : Act} {ds : List Nat} (hs : ∀ cs b, o.op ≠ .select cs b) {ops : Array Oper} (h : ∀ d ∈ o.looksAt ops, d ∈ ds) : Go.execOp a.eval o = Go.execOp (cutV a ds) o :=
  Go.execOp_congr o hs fun x hx => by
    cases x with
    | tmp d =>
      have : d ∈ ds := h d (List.mem_append_left _ (List.mem_filterMap.2 ⟨.tmp d, by simpa using hx, rfl⟩))
      simp [cutV, this]
    | _ => rfl

theorem wanted_at {t : Tm} {a : Act} {ops : Array Oper} {o : Oper} {x : AOper} {k : Nat} (hsz : a.tmps.size = nt) (hv : ∀ d want, x.guard = some (d, want) → ∃ e, VR e (t.v d) (a.tmps.getD d Go.undef)) (hx : compOper P nt ops k o = some x) :
    Go.Region.wanted o (Go.yielded ops a.tmps) = x.wanted t := by
  unfold compOper at hx
  split at hx
  · obtain ⟨op, _, hx⟩ := Option.bind_eq_some_iff.1 hx
    unfold Go.Region.wanted AOper.wanted
    split at hx
    · rename_i hg
      simp at hx; subst hx
      simp [hg]
    · rename_i j want hg
      obtain ⟨d, hd, hx⟩ := Option.bind_eq_some_iff.1 hx
      split at hx
      · rename_i hlt
        simp at hx; subst hx
        simp only [hg]
        obtain ⟨e, hget⟩ := hv d want rfl
        have hsz : d < a.tmps.size := by rw [hsz]; exact hlt
        simp only [Go.yielded, hd, Option.bind_some]
        rw [Array.getD_eq_getD_getElem?] at hget
        rw [Array.getElem?_eq_getElem hsz] at hget ⊢
        simp only [Option.getD_some] at hget
        generalize a.tmps[d] = u at *
        generalize t.v d = x at *
        cases hget <;> simp
      · simp at hx
  · simp at hx

end Am
