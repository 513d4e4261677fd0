/- AmRel: how the abstract machine's values and heap lie in the model's world. -/
import Derived.Test.YtibmhhdgcbaofaaDoorAmComp
import Derived.RangeFuncIn
import Derived.Laws.Sem
namespace Am
set_option linter.unusedVariables false
set_option linter.unusedSimpArgs false
open Go (IntKind BinOp UnOp Value Program TypeId TypeDesc Operand Oper Code Tmp World Addr Obj)

structure Loc where
  cb : Nat
  sh : Nat
  k : Nat
  top : Nat
  deriving Inhabited
abbrev Emb := Nat → Option Loc
/-- What the relation hangs on: which code is which; where the program's variables lie. -/
structure Cx where
  code : Nat → Code → ACode → Prop
  gl : Nat → Option Loc
instance : CoeFun Cx (fun _ => Nat → Code → ACode → Prop) := ⟨Cx.code⟩
def Emb.le (i j : Emb) : Prop := ∀ b l, i b = some l → j b = some l
theorem Emb.le_refl (i : Emb) : i.le i := fun _ _ h => h
theorem Emb.le_trans {i j k : Emb} (h : i.le j) (h' : j.le k) : i.le k := fun _ _ e => h' _ _ (h _ _ e)
def Emb.add (i : Emb) (b : Nat) (l : Loc) : Emb := fun c => if c = b then some l else i c
theorem Emb.le_add {i : Emb} {b : Nat} (l : Loc) (h : i b = none) : i.le (i.add b l) := by
  intro c m e
  unfold Emb.add
  by_cases hc : c = b
  · subst hc; rw [h] at e; cases e
  · rw [if_neg hc]; exact e
theorem Emb.add_same (i : Emb) (b : Nat) (l : Loc) : i.add b l b = some l := by simp [Emb.add]

mutual
inductive VR (e : Emb) : V → Value → Prop
  | b (x : Bool) : VR e (.b x) (.bool x)
  | i (k : IntKind) (n : Int) : VR e (.i k n) (.int k n)
  | s (s : ByteArray) : VR e (.s s.data.toList) (.string s)
  | p0 : VR e (.p none) (.pointer none)
  | p (b r f : Nat) (l : Loc) (h : e b = some l) : VR e (.p (some (b, r, f))) (.pointer (some ⟨l.cb, l.sh + r * l.k + f, none⟩))
  | sl0 (ex : Bool) : VR e (.sl none 0 0 ex) (.slice none 0 0)
  | sl (b r len cap c : Nat) (ex : Bool) (l : Loc) (a : Addr) (h : e b = some l) (h1 : len ≤ cap) (h2 : cap ≤ c) (h3 : ex = true → c = cap)
      (h4 : c ≠ 0 → a = ⟨l.cb, l.sh + r * l.k, none⟩ ∧ r + c ≤ l.top) : VR e (.sl (some (b, r)) len cap ex) (.slice (some a) len c)
  | m0 : VR e (.m none) (.map none)
  | m (b : Nat) (l : Loc) (h : e b = some l) : VR e (.m (some b)) (.map (some l.cb))
  | fn (f : Nat) (vs : List V) (ws : Array Value) (h : VRL e vs ws.toList) : VR e (.f (.fn f) vs) (.func (.func f) #[] ws)
  | yl (b : Nat) (l : Loc) (h : e b = some l) : VR e (.f (.yl b) []) (.func (.yield l.cb) #[] #[])
  | nf : VR e .nf .nilFunc
  | ifc (t : Nat) (v : V) (w : Value) (h : VR e v w) : VR e (.ifc t v) (.iface t w)
  | nifc : VR e .nifc .nilIface
  | agg (vs : List V) (ws : Array Value) (h : VRL e vs ws.toList) : VR e (.agg vs) (.agg ws)
  | tup (vs : List V) (ws : Array Value) (h : VRL e vs ws.toList) : VR e (.tup vs) (.tuple ws)
inductive VRL (e : Emb) : List V → List Value → Prop
  | nil : VRL e [] []
  | cons (v : V) (w : Value) (vs : List V) (ws : List Value) (h : VR e v w) (hs : VRL e vs ws) : VRL e (v :: vs) (w :: ws)
end

mutual
theorem VR.mono {e e' : Emb} (he : e.le e') : ∀ {v : V} {w : Value}, VR e v w → VR e' v w
  | _, _, .b x => .b x
  | _, _, .i k n => .i k n
  | _, _, .s s => .s s
  | _, _, .p0 => .p0
  | _, _, .p b r f l h => .p b r f l (he _ _ h)
  | _, _, .sl0 ex => .sl0 ex
  | _, _, .sl b r len cap c ex l a h h1 h2 h3 h4 => .sl b r len cap c ex l a (he _ _ h) h1 h2 h3 h4
  | _, _, .m0 => .m0
  | _, _, .m b l h => .m b l (he _ _ h)
  | _, _, .fn f vs ws h => .fn f vs ws (VRL.mono he h)
  | _, _, .yl b l h => .yl b l (he _ _ h)
  | _, _, .nf => .nf
  | _, _, .ifc t v w h => .ifc t v w (VR.mono he h)
  | _, _, .nifc => .nifc
  | _, _, .agg vs ws h => .agg vs ws (VRL.mono he h)
  | _, _, .tup vs ws h => .tup vs ws (VRL.mono he h)
theorem VRL.mono {e e' : Emb} (he : e.le e') : ∀ {vs : List V} {ws : List Value}, VRL e vs ws → VRL e' vs ws
  | _, _, .nil => .nil
  | _, _, .cons v w vs ws h hs => .cons v w vs ws (VR.mono he h) (VRL.mono he hs)
end

theorem VRL.length {e : Emb} : ∀ {vs : List V} {ws : List Value}, VRL e vs ws → vs.length = ws.length
  | _, _, .nil => rfl
  | _, _, .cons _ _ _ _ _ hs => by simp [VRL.length hs]
theorem VRL.get {e : Emb} : ∀ {vs : List V} {ws : List Value}, VRL e vs ws → ∀ (j : Nat) (v : V), vs[j]? = some v → ∃ w, ws[j]? = some w ∧ VR e v w
  | _, _, .nil, j, v, hj => by simp at hj
  | _, _, .cons v0 w0 vs ws h hs, j, v, hj => by
    cases j with
    | zero => simp at hj; subst hj; exact ⟨w0, by simp, h⟩
    | succ j => simp at hj; obtain ⟨w, h1, h2⟩ := hs.get j v hj; exact ⟨w, by simpa using h1, h2⟩
theorem VRL.of_get {e : Emb} : ∀ {vs : List V} {ws : List Value}, vs.length = ws.length → (∀ (j : Nat) (v : V) (w : Value), vs[j]? = some v → ws[j]? = some w → VR e v w) → VRL e vs ws
  | [], [], _, _ => .nil
  | [], _ :: _, h, _ => by simp at h
  | _ :: _, [], h, _ => by simp at h
  | v :: vs, w :: ws, h, hj => .cons v w vs ws (hj 0 v w (by simp) (by simp)) (VRL.of_get (by simpa using h) fun j v w h1 h2 => hj (j + 1) v w (by simpa using h1) (by simpa using h2))
theorem VRL.append {e : Emb} {xs ys : List V} {us ws : List Value} (h : VRL e xs us) (h' : VRL e ys ws) : VRL e (xs ++ ys) (us ++ ws) := by
  induction xs generalizing us with
  | nil => cases h; exact h'
  | cons x xs ih => cases h with | cons _ u _ us hx hs => exact .cons _ _ _ _ hx (ih hs)
theorem VRL.take {e : Emb} {xs : List V} {us : List Value} (h : VRL e xs us) (n : Nat) : VRL e (xs.take n) (us.take n) := by
  induction n generalizing xs us with
  | zero => exact .nil
  | succ n ih => cases h with
    | nil => exact .nil
    | cons _ _ _ _ hx hs => exact .cons _ _ _ _ hx (ih hs)
theorem VRL.drop {e : Emb} {xs : List V} {us : List Value} (h : VRL e xs us) (n : Nat) : VRL e (xs.drop n) (us.drop n) := by
  induction n generalizing xs us with
  | zero => exact h
  | succ n ih => cases h with
    | nil => exact .nil
    | cons _ _ _ _ hx hs => exact ih hs
theorem VR.cells {e : Emb} {v : V} {w : Value} (h : VR e v w) : VRL e v.cells w.cells.toList := by
  cases h with
  | agg vs ws h => exact h
  | _ => exact .cons _ _ _ _ (by constructor <;> assumption) .nil
theorem VR.flat {e : Emb} {v : V} {w : Value} (h : VR e v w) (hf : v.flat = true) : (∀ c, w ≠ .agg c) ∧ (∀ c, w ≠ .tuple c) := by
  cases h <;> simp_all [V.flat]

/-! ### Blocks -/
def cellAt (w : World) (cb off : Nat) : Option Value := w.cell? ⟨cb, off, none⟩
def cold (w : World) (cb off : Nat) : Prop := w.frozen? ⟨cb, off, none⟩ = false

def LoopR (e : Emb) (L : LoopSt) (r : Go.Loop) : Prop :=
  (match L.st with | .ready => r.state = .ready | .busy => r.state = .busy | .done => r.state = .done) ∧
  (match L.pend with | .normal => r.pending = none | .ret => r.pending = some .ret | .exit id => r.pending = some (.exit id)) ∧
  r.tmps.size = L.nt ∧ (∀ n, VR e (L.tm.v n) (r.tmps.getD n Go.undef)) ∧ L.params = r.params.toList ∧ (∀ p ∈ L.params, p < L.nt)

/-- A value in a cell. -/
def CR (e : Emb) (v : V) (u : Value) : Prop := VR e v u ∧ v.flat = true
theorem CR.mono {e e' : Emb} {v : V} {u : Value} (h : CR e v u) (he : e.le e') : CR e' v u := ⟨h.1.mono he, h.2⟩
theorem CR.one {e : Emb} {v : V} {u : Value} (h : CR e v u) : u.oneCell' = true := by
  obtain ⟨h, hf⟩ := h
  cases h <;> simp_all [V.flat, Go.Value.oneCell']

/-- All the places of a block: those beyond what is known, too. -/
def Room (w : World) (l : Loc) : Prop := ∀ q, q < l.top * l.k → (cellAt w l.cb (l.sh + q)).isSome = true ∧ cold w l.cb (l.sh + q)
/-- None of its places is frozen, but perhaps one behind the last. -/
def Mild (w : World) (l : Loc) : Prop := ∃ cs el lo hi, w.heap[l.cb]? = some (.cells cs el (lo, hi)) ∧ (lo = hi ∨ cs.size ≤ lo)

def BlkR (C : Cx) (e : Emb) (x : Blk) (l : Loc) (w : World) : Prop :=
  match x with
  | .rows k rs ro => (l.k = k ∧ 0 < k ∧ (ro = false → Room w l ∧ Mild w l)) ∧ ∀ (r : Nat) (row : List V), rs[r]? = some row → row.length = k ∧
      ∀ (j : Nat) (v : V), row[j]? = some v → ∃ u, cellAt w l.cb (l.sh + r * k + j) = some u ∧ CR e v u ∧ (ro = false → cold w l.cb (l.sh + r * k + j))
  | .bytes bs ro => (l.k = 1 ∧ (ro = false → Room w l ∧ Mild w l)) ∧ ∀ (r : Nat) (c : UInt8), bs[r]? = some c → cellAt w l.cb (l.sh + r) = some (.int .u8 c.toNat) ∧ (ro = false → cold w l.cb (l.sh + r))
  | .map es => ∃ ces clock, w.heap[l.cb]? = some (.map ces clock) ∧ VRL e (es.map (·.1)) (ces.toList.map (·.key)) ∧ VRL e (es.map (·.2)) (ces.toList.map (·.val))
  | .iter s pos => l.k = 1 ∧ l.sh = 0 ∧ ∃ bs : ByteArray, w.heap[l.cb]? = some (.stringIter bs pos) ∧ bs.data.toList = s
  | .loop L => ∃ r, w.heap[l.cb]? = some (.loop r) ∧ LoopR e L r ∧ C L.nt r.assign L.assign ∧ C L.nt r.body L.body

variable {C : Cx}

theorem BlkR.mono {e e' : Emb} {x : Blk} {l : Loc} {w : World} (he : e.le e') (h : BlkR C e x l w) : BlkR C e' x l w := by
  cases x with
  | rows k rs ro =>
    obtain ⟨h1, h3⟩ := h
    exact ⟨h1, fun r row hr => ⟨(h3 r row hr).1, fun j v hj => let ⟨u, a, b, c⟩ := (h3 r row hr).2 j v hj; ⟨u, a, b.mono he, c⟩⟩⟩
  | bytes bs ro => exact h
  | map es => obtain ⟨ces, clock, a, b, c⟩ := h; exact ⟨ces, clock, a, b.mono he, c.mono he⟩
  | iter s pos => exact h
  | loop L => obtain ⟨r, a, ⟨b1, b2, b3, b4, b5⟩, c⟩ := h; exact ⟨r, a, ⟨b1, b2, b3, fun n => (b4 n).mono he, b5⟩, c⟩

/-- A block's reading hangs on its own object alone. -/
theorem BlkR.of_heap {e : Emb} {x : Blk} {l : Loc} {w w' : World} (hh : w'.heap[l.cb]? = w.heap[l.cb]?) (h : BlkR C e x l w) : BlkR C e x l w' := by
  have hc : ∀ off, cellAt w' l.cb off = cellAt w l.cb off := fun off => by simp only [cellAt, World.cell?, hh]
  have hf : ∀ off, cold w l.cb off → cold w' l.cb off := fun off hx => by simpa only [cold, World.frozen?, hh] using hx
  have hm : Room w l ∧ Mild w l → Room w' l ∧ Mild w' l := fun ⟨hr, cs, el, lo, hi, h1, h2⟩ => ⟨fun q hq => ⟨by rw [hc]; exact (hr q hq).1, hf _ (hr q hq).2⟩, cs, el, lo, hi, by rw [hh]; exact h1, h2⟩
  cases x with
  | rows k rs ro =>
    obtain ⟨⟨h1, h2, hroom⟩, h3⟩ := h
    refine ⟨⟨h1, h2, fun hro => hm (hroom hro)⟩, fun r row hr => ⟨(h3 r row hr).1, fun j v hj => ?_⟩⟩
    obtain ⟨u, a, b, c⟩ := (h3 r row hr).2 j v hj
    exact ⟨u, by rw [hc]; exact a, b, fun hro => hf _ (c hro)⟩
  | bytes bs ro =>
    obtain ⟨⟨h1, hroom⟩, h2⟩ := h
    exact ⟨⟨h1, fun hro => hm (hroom hro)⟩, fun r c hr => ⟨by rw [hc]; exact (h2 r c hr).1, fun hro => hf _ ((h2 r c hr).2 hro)⟩⟩
  | map es => obtain ⟨ces, clock, a, b⟩ := h; exact ⟨ces, clock, by rw [hh]; exact a, b⟩
  | iter s pos => obtain ⟨h1, h2, bs, a, b⟩ := h; exact ⟨h1, h2, bs, by rw [hh]; exact a, b⟩
  | loop L => obtain ⟨r, a, b⟩ := h; exact ⟨r, by rw [hh]; exact a, b⟩

/-! ### The heap -/
structure Sim (C : Cx) (B : Nat) (e : Emb) (h : H) (w : World) : Prop where
  blk : ∀ b x, h.get b = some x → ∃ l, e b = some l ∧ BlkR C e x l w ∧ l.cb < w.heap.size ∧ (x.own = true → B ≤ l.cb)
  inj : ∀ b b' x x' l l', h.get b = some x → h.get b' = some x' → x.own = true → b ≠ b' → e b = some l → e b' = some l' → l.cb ≠ l'.cb
  dom : ∀ b l, e b = some l → b < h.nx
  low : B ≤ w.heap.size
  gl : ∀ b l, C.gl b = some l → e b = some l

/-- The blocks of the world that are the machine's own. -/
def Owns (e : Emb) (h : H) (c : Nat) : Prop := ∃ b x l, h.get b = some x ∧ x.own = true ∧ e b = some l ∧ l.cb = c

/-- The blocks of the world that the machine knows. -/
def Img (e : Emb) (h : H) (c : Nat) : Prop := ∃ b x l, h.get b = some x ∧ e b = some l ∧ l.cb = c

/-- What no operation of the machine turns. -/
structure Sky (w w' : World) : Prop where
  os : w'.os = w.os
  tape : w'.tape = w.tape
  output : w'.output = w.output
theorem Sky.trans {a b c : World} (h : Sky a b) (k : Sky b c) : Sky a c := ⟨k.os.trans h.os, k.tape.trans h.tape, k.output.trans h.output⟩

theorem laid_heap {w w' : World} {g : Array Obj} (h : w' = { w with heap := g, drawn := w'.drawn }) : w'.heap = g := congrArg World.heap h
theorem laid_sky {w w' : World} {g : Array Obj} (h : w' = { w with heap := g, drawn := w'.drawn }) : Sky w w' := by
  rw [h]; exact ⟨rfl, rfl, rfl⟩

structure Stp (C : Cx) (B : Nat) (e : Emb) (h : H) (w : World) (e' : Emb) (h' : H) (w' : World) : Prop where
  le : e.le e'
  sim : Sim C B e' h' w'
  own : ∀ c, Owns e' h' c → w.heap.size ≤ c ∨ Owns e h c
  img : ∀ c, Img e' h' c → w.heap.size ≤ c ∨ Img e h c
  keep : ∀ c, c < w.heap.size → ¬ Owns e h c → w'.heap[c]? = w.heap[c]?
  grow : w.heap.size ≤ w'.heap.size
  nx : h.nx ≤ h'.nx
  sky : Sky w w'

variable {B : Nat} {e e' e'' : Emb} {h h' h'' : H} {w w' w'' : World}

theorem Stp.refl (s : Sim C B e h w) : Stp C B e h w e h w :=
  ⟨Emb.le_refl _, s, fun _ o => .inr o, fun _ o => .inr o, fun _ _ _ => rfl, Nat.le_refl _, Nat.le_refl _, ⟨rfl, rfl, rfl⟩⟩
theorem Stp.trans (s : Stp C B e h w e' h' w') (t : Stp C B e' h' w' e'' h'' w'') : Stp C B e h w e'' h'' w'' := by
  refine ⟨Emb.le_trans s.le t.le, t.sim, fun c o => ?_, fun c o => ?_, fun c hc ho => ?_, Nat.le_trans s.grow t.grow, Nat.le_trans s.nx t.nx, s.sky.trans t.sky⟩
  · rcases t.own c o with h1 | h1
    · exact .inl (Nat.le_trans s.grow h1)
    · exact s.own c h1
  · rcases t.img c o with h1 | h1
    · exact .inl (Nat.le_trans s.grow h1)
    · exact s.img c h1
  · rw [t.keep c (Nat.lt_of_lt_of_le hc s.grow) (fun o => ?_), s.keep c hc ho]
    rcases s.own c o with h1 | h1
    · omega
    · exact ho h1

theorem Sim.lt (s : Sim C B e h w) {b : Nat} {x : Blk} (hb : h.get b = some x) : b < h.nx := let ⟨_, hl, _⟩ := s.blk b x hb; s.dom b _ hl
theorem Sim.fresh (s : Sim C B e h w) : e h.nx = none := by
  cases hl : e h.nx with
  | none => rfl
  | some l => exact absurd (s.dom _ _ hl) (Nat.lt_irrefl _)
theorem Sim.get_nx (s : Sim C B e h w) : h.get h.nx = none := by
  cases hx : h.get h.nx with
  | none => rfl
  | some x => exact absurd (s.lt hx) (Nat.lt_irrefl _)

/-- A world that reads the same at every block that matters. -/
theorem Sim.of_heap (s : Sim C B e h w) (hk : ∀ b x l, h.get b = some x → e b = some l → w'.heap[l.cb]? = w.heap[l.cb]?) (hg : w.heap.size ≤ w'.heap.size) : Sim C B e h w' := by
  refine ⟨fun b x hb => ?_, s.inj, s.dom, Nat.le_trans s.low hg, s.gl⟩
  obtain ⟨l, hl, hr, hlt, ho⟩ := s.blk b x hb
  exact ⟨l, hl, hr.of_heap (hk b x l hb hl), Nat.lt_of_lt_of_le hlt hg, ho⟩

theorem alloc_heap (w : World) (o : Obj) (c : Nat) (hc : c < w.heap.size) : ({ w with heap := w.heap.push o } : World).heap[c]? = w.heap[c]? := by
  simp [Array.getElem?_push, Nat.ne_of_lt hc]

/-- A world with more blocks behind. -/
theorem Stp.more (s : Sim C B e h w) (hk : ∀ c, c < w.heap.size → w'.heap[c]? = w.heap[c]?) (hg : w.heap.size ≤ w'.heap.size) (hs : Sky w w' := by exact ⟨rfl, rfl, rfl⟩) : Stp C B e h w e h w' := by
  refine ⟨Emb.le_refl _, s.of_heap (fun b x l hb hl => ?_) hg, fun _ o => .inr o, fun _ o => .inr o, fun c hc _ => hk c hc, hg, Nat.le_refl _, hs⟩
  obtain ⟨l', hl', _, hlt, _⟩ := s.blk b x hb
  rw [hl] at hl'; cases hl'
  exact hk _ hlt

/-- A new block, at a place of its own. -/
theorem Stp.push (s : Sim C B e h w) (x : Blk) (l : Loc) (hnew : w.heap.size ≤ l.cb) (hk : ∀ c, c < w.heap.size → w'.heap[c]? = w.heap[c]?) (hg : l.cb < w'.heap.size)
    (hx : BlkR C (e.add h.nx l) x l w') (hs : Sky w w' := by exact ⟨rfl, rfl, rfl⟩) : Stp C B e h w (e.add h.nx l) (h.push x) w' := by
  have hle : e.le (e.add h.nx l) := Emb.le_add l s.fresh
  have old : ∀ b y m, h.get b = some y → e.add h.nx l b = some m → e b = some m := by
    intro b y m hb hm
    have hne : b ≠ h.nx := Nat.ne_of_lt (s.lt hb)
    simpa [Emb.add, hne] using hm
  have gp : ∀ b y, (h.push x).get b = some y → (b = h.nx ∧ y = x) ∨ (b ≠ h.nx ∧ h.get b = some y) := by
    intro b y hb
    rw [H.get_push] at hb
    by_cases hbn : b = h.nx
    · rw [if_pos hbn] at hb; exact .inl ⟨hbn, (Option.some.inj hb).symm⟩
    · rw [if_neg hbn] at hb; exact .inr ⟨hbn, hb⟩
  refine ⟨hle, ⟨fun b y hb => ?_, ?_, ?_, by have := s.low; omega, fun b l hb => hle _ _ (s.gl b l hb)⟩, fun c ho => ?_, fun c ho => ?_, fun c hc _ => hk c hc, by omega, Nat.le_succ _, hs⟩
  · rcases gp b y hb with ⟨rfl, rfl⟩ | ⟨hne, hb'⟩
    · exact ⟨l, Emb.add_same _ _ _, hx, hg, fun _ => Nat.le_trans s.low hnew⟩
    · obtain ⟨m, hm, hr, hlt, ho⟩ := s.blk b y hb'
      exact ⟨m, hle _ _ hm, (hr.of_heap (hk _ hlt)).mono hle, by omega, ho⟩
  · intro b b' y y' m m' hb hb' ho hne hm hm'
    rcases gp b y hb with ⟨rfl, rfl⟩ | ⟨hne1, hb1⟩ <;> rcases gp b' y' hb' with ⟨rfl, rfl⟩ | ⟨hne2, hb2⟩
    · exact absurd rfl hne
    · rw [Emb.add_same] at hm; cases hm
      obtain ⟨m2, hm2, _, hlt, _⟩ := s.blk b' y' hb2
      have := old b' y' m' hb2 hm'
      rw [hm2] at this; cases this
      omega
    · rw [Emb.add_same] at hm'; cases hm'
      obtain ⟨m2, hm2, _, hlt, _⟩ := s.blk b y hb1
      have := old b y m hb1 hm
      rw [hm2] at this; cases this
      omega
    · exact s.inj b b' y y' m m' hb1 hb2 ho hne (old _ _ _ hb1 hm) (old _ _ _ hb2 hm')
  · intro b m hm
    unfold Emb.add at hm
    show b < h.nx + 1
    by_cases hbn : b = h.nx
    · omega
    · rw [if_neg hbn] at hm; have := s.dom b m hm; omega
  · obtain ⟨b, y, m, hb, hy, hm, rfl⟩ := ho
    rcases gp b y hb with ⟨rfl, rfl⟩ | ⟨hne, hb'⟩
    · rw [Emb.add_same] at hm; cases hm; exact .inl hnew
    · exact .inr ⟨b, y, m, hb', hy, old _ _ _ hb' hm, rfl⟩
  · obtain ⟨b, y, m, hb, hm, rfl⟩ := ho
    rcases gp b y hb with ⟨rfl, rfl⟩ | ⟨hne, hb'⟩
    · rw [Emb.add_same] at hm; cases hm; exact .inl hnew
    · exact .inr ⟨b, y, m, hb', old _ _ _ hb' hm, rfl⟩

/-- A block of one's own that is written. -/
theorem Stp.set (s : Sim C B e h w) {b : Nat} {x x' : Blk} {l : Loc} (hb : h.get b = some x) (hown : x.own = true) (hl : e b = some l)
    (hk : ∀ c, c ≠ l.cb → w'.heap[c]? = w.heap[c]?) (hg : w'.heap.size = w.heap.size) (hx : BlkR C e x' l w') (hs : Sky w w' := by exact ⟨rfl, rfl, rfl⟩) : Stp C B e h w e (h.set b x') w' := by
  have gs : ∀ c y, (h.set b x').get c = some y → (c = b ∧ y = x') ∨ (c ≠ b ∧ h.get c = some y) := by
    intro c y hc
    rw [H.get_set] at hc
    by_cases hcb : c = b
    · rw [if_pos hcb] at hc; exact .inl ⟨hcb, (Option.some.inj hc).symm⟩
    · rw [if_neg hcb] at hc; exact .inr ⟨hcb, hc⟩
  obtain ⟨l0, hl0, hr0, hlt0, ho0⟩ := s.blk b x hb
  rw [hl] at hl0; cases hl0
  refine ⟨Emb.le_refl _, ⟨fun c y hc => ?_, ?_, s.dom, by rw [hg]; exact s.low, s.gl⟩, fun c ho => ?_, fun c ho => ?_, fun c hc ho => ?_, Nat.le_of_eq hg.symm, Nat.le_refl _, hs⟩
  · rcases gs c y hc with ⟨rfl, rfl⟩ | ⟨hne, hc'⟩
    · exact ⟨l, hl, hx, by omega, fun _ => ho0 hown⟩
    · obtain ⟨m, hm, hr, hlt, ho⟩ := s.blk c y hc'
      have hcb : m.cb ≠ l.cb := (s.inj b c x y l m hb hc' hown (Ne.symm hne) hl hm).symm
      exact ⟨m, hm, hr.of_heap (hk _ hcb), by omega, ho⟩
  · intro c c' y y' m m' hc hc' ho hne hm hm'
    rcases gs c y hc with ⟨rfl, rfl⟩ | ⟨hne1, hc1⟩ <;> rcases gs c' y' hc' with ⟨rfl, rfl⟩ | ⟨hne2, hc2⟩
    · exact absurd rfl hne
    · exact s.inj _ _ _ _ _ _ hb hc2 hown hne hm hm'
    · exact (s.inj _ _ _ _ _ _ hb hc1 hown (Ne.symm hne) hm' hm).symm
    · exact s.inj _ _ _ _ _ _ hc1 hc2 ho hne hm hm'
  · obtain ⟨c', y, m, hc', hy, hm, rfl⟩ := ho
    rcases gs c' y hc' with ⟨rfl, rfl⟩ | ⟨hne, hc1⟩
    · exact .inr ⟨_, x, m, hb, hown, hm, rfl⟩
    · exact .inr ⟨c', y, m, hc1, hy, hm, rfl⟩
  · obtain ⟨c', y, m, hc', hm, rfl⟩ := ho
    rcases gs c' y hc' with ⟨rfl, rfl⟩ | ⟨hne, hc1⟩
    · exact .inr ⟨_, x, m, hb, hm, rfl⟩
    · exact .inr ⟨c', y, m, hc1, hm, rfl⟩
  · refine hk c fun hcl => ho ⟨b, x, l, hb, hown, hl, hcl.symm⟩

theorem Sim.kill (s : Sim C B e h w) (b : Nat) : Sim C B e (h.kill b) w := by
  have gk : ∀ c y, (h.kill b).get c = some y → h.get c = some y := by
    intro c y hc
    rw [H.get_kill] at hc
    by_cases hcb : c = b
    · rw [if_pos hcb] at hc; cases hc
    · rw [if_neg hcb] at hc; exact hc
  exact ⟨fun c y hc => s.blk c y (gk c y hc), fun c c' y y' m m' hc hc' => s.inj c c' y y' m m' (gk _ _ hc) (gk _ _ hc'), s.dom, s.low, s.gl⟩
theorem Stp.kill (s : Sim C B e h w) (b : Nat) : Stp C B e h w e (h.kill b) w := by
  have gk : ∀ c y, (h.kill b).get c = some y → h.get c = some y := by
    intro c y hc
    rw [H.get_kill] at hc
    by_cases hcb : c = b
    · rw [if_pos hcb] at hc; cases hc
    · rw [if_neg hcb] at hc; exact hc
  refine ⟨Emb.le_refl _, s.kill b, fun c ho => .inr ?_, fun c ho => .inr ?_, fun _ _ _ => rfl, Nat.le_refl _, Nat.le_refl _, ⟨rfl, rfl, rfl⟩⟩
  · obtain ⟨c', y, m, hc', hy, hm, rfl⟩ := ho
    exact ⟨c', y, m, gk _ _ hc', hy, hm, rfl⟩
  · obtain ⟨c', y, m, hc', hm, rfl⟩ := ho
    exact ⟨c', y, m, gk _ _ hc', hm, rfl⟩

end Am
