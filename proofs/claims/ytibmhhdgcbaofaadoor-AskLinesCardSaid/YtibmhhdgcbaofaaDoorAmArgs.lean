/- AmArgs: arguments, as a row's frame reads them, laid into the machine's heap as blocks that are only read. -/
import Derived.Test.YtibmhhdgcbaofaaDoorAmAbs
import GoSem.ClaimChange
namespace Am
set_option linter.unusedVariables false
set_option linter.unusedSimpArgs false
open Go (IntKind BinOp UnOp Value Program TypeId TypeDesc Operand Oper Code Tmp World Addr Obj Act Fence DataW MemPlace Lit)

/-- Plain data. 'nl': a nil slice; 'bs': a slice of bytes. -/
inductive Dt where
  | b (x : Bool)
  | i (k : IntKind) (n : Int)
  | s (l : List UInt8)
  | st (xs : List Dt)
  | nl
  | sl (k : Nat) (xs : List Dt)
  | bs (l : List UInt8)

inductive Ty where
  | b
  | i (k : IntKind)
  | s
  | st (ts : List Ty)
  | sl (k : Nat) (e : Ty)
  | bs

mutual
def Dt.lay : Dt → H → List V × H
  | .b x, h => ([.b x], h)
  | .i k n, h => ([.i k n], h)
  | .s l, h => ([.s l], h)
  | .st xs, h => Dt.layL xs h
  | .nl, h => ([.sl none 0 0 true], h)
  | .sl k xs, h =>
    ([.sl (some ((Dt.layR xs h).2.nx, 0)) xs.length xs.length false], if xs.isEmpty then ⟨(Dt.layR xs h).2.nx + 1, (Dt.layR xs h).2.tr⟩ else (Dt.layR xs h).2.push (.rows k (Dt.layR xs h).1 true))
  | .bs l, h => ([.sl (some (h.nx, 0)) l.length l.length false], if l.isEmpty then ⟨h.nx + 1, h.tr⟩ else h.push (.bytes l true))
def Dt.layL : List Dt → H → List V × H
  | [], h => ([], h)
  | x :: xs, h => ((x.lay h).1 ++ (Dt.layL xs (x.lay h).2).1, (Dt.layL xs (x.lay h).2).2)
def Dt.layR : List Dt → H → List (List V) × H
  | [], h => ([], h)
  | x :: xs, h => ((x.lay h).1 :: (Dt.layR xs (x.lay h).2).1, (Dt.layR xs (x.lay h).2).2)
end

mutual
def Dt.has : Ty → Dt → Prop
  | .b, .b _ => True
  | .i k, .i k' n => k' = k ∧ k.min ≤ n ∧ n ≤ k.max
  | .s, .s l => l.length ≤ Go.maxLen
  | .st ts, .st xs => Dt.hasL ts xs
  | .sl _ _, .nl => True
  | .sl k e, .sl k' xs => k' = k ∧ xs.length ≤ Go.maxLen ∧ Dt.hasA e xs
  | .bs, .nl => True
  | .bs, .bs l => l.length ≤ Go.maxLen
  | _, _ => False
def Dt.hasL : List Ty → List Dt → Prop
  | [], [] => True
  | t :: ts, x :: xs => Dt.has t x ∧ Dt.hasL ts xs
  | _, _ => False
def Dt.hasA : Ty → List Dt → Prop
  | _, [] => True
  | e, x :: xs => Dt.has e x ∧ Dt.hasA e xs
end

mutual
def Ty.size : Ty → Nat
  | .st ts => Ty.sizes ts
  | _ => 1
def Ty.sizes : List Ty → Nat
  | [] => 0
  | t :: ts => t.size + Ty.sizes ts
end

/-- What a type is made of: only where a struct's fields lie one behind the other. -/
def tysAt (f : TypeId → Option Ty) (P : Program) : Nat → List Go.Field → Option (List Ty)
  | _, [] => some []
  | off, fd :: fds => if fd.offset = off then (f fd.type).bind fun t => if t.size = P.cellsOf fd.type then (tysAt f P (off + t.size) fds).map (t :: ·) else none else none
def tyOf (P : Program) : Nat → TypeId → Option Ty
  | 0, _ => none
  | n + 1, t => match P.underlying t with
    | some .bool => some .b
    | some (.int k) => some (.i k)
    | some .string => some .s
    | some (.slice e) => match P.underlying e with
      | some (.int .u8) => if P.cellsOf e = 1 then some .bs else none
      | _ => (tyOf P n e).bind fun ty => if ty.size = P.cellsOf e ∧ 0 < ty.size then some (.sl ty.size ty) else none
    | some (.struct fs) => (tysAt (tyOf P n) P 0 fs.toList).bind fun ts => if Ty.sizes ts = P.cellsOf t then some (.st ts) else none
    | _ => none

variable {P : Program} {C : Cx} {B : Nat} {e : Emb} {h : H} {w : World}

/-- All that is there is only read. -/
def Ro (h : H) : Prop := ∀ b x, h.get b = some x → x.own = false

/-- What is asked of data laid. -/
def Laid (w : World) (x : Dt) (cs : List Value) : Prop := ∀ (C : Cx) (B : Nat) (e : Emb) (h : H), Sim C B e h w → Ro h →
  ∃ e', e.le e' ∧ VRL e' (x.lay h).1 cs ∧ Sim C B e' (x.lay h).2 w ∧ Ro (x.lay h).2 ∧ (∀ v ∈ (x.lay h).1, v.flat = true)

theorem laid_flat {w : World} {x : Dt} {cs : List Value} {vs : List V} (hl : ∀ h, x.lay h = (vs, h)) (hv : ∀ e, VRL e vs cs) (hf : ∀ v ∈ vs, v.flat = true) : Laid w x cs := by
  intro C B e h s hr
  rw [hl]
  exact ⟨e, Emb.le_refl _, hv e, s, hr, hf⟩

/-- A block that is only read, laid. -/
theorem Sim.lay (s : Sim C B e h w) (x : Blk) (l : Loc) (ho : x.own = false) (hlt : l.cb < w.heap.size) (hx : BlkR C (e.add h.nx l) x l w) (hro : Ro h) : Sim C B (e.add h.nx l) (h.push x) w := by
  have hle : e.le (e.add h.nx l) := Emb.le_add l s.fresh
  have old : ∀ c y m, h.get c = some y → e.add h.nx l c = some m → e c = some m := by
    intro c y m hc hm
    have hne : c ≠ h.nx := Nat.ne_of_lt (s.lt hc)
    simpa [Emb.add, hne] using hm
  have gp : ∀ c y, (h.push x).get c = some y → (c = h.nx ∧ y = x) ∨ (c ≠ h.nx ∧ h.get c = some y) := by
    intro c y hc
    rw [H.get_push] at hc
    by_cases hcn : c = h.nx
    · rw [if_pos hcn] at hc; exact .inl ⟨hcn, (Option.some.inj hc).symm⟩
    · rw [if_neg hcn] at hc; exact .inr ⟨hcn, hc⟩
  refine ⟨fun c y hc => ?_, fun c c' y y' m m' hc hc' hy => ?_, fun c m hm => ?_, s.low, fun c m hm => hle _ _ (s.gl c m hm)⟩
  · rcases gp c y hc with ⟨rfl, rfl⟩ | ⟨hne, hc'⟩
    · exact ⟨l, Emb.add_same _ _ _, hx, hlt, fun ho' => by rw [ho] at ho'; cases ho'⟩
    · obtain ⟨m, hm, hr, hlt', ho'⟩ := s.blk c y hc'
      exact ⟨m, hle _ _ hm, hr.mono hle, hlt', ho'⟩
  · rcases gp c y hc with ⟨rfl, rfl⟩ | ⟨hne, hc1⟩
    · rw [ho] at hy; cases hy
    · rw [hro c y hc1] at hy; cases hy
  · unfold Emb.add at hm
    show c < h.nx + 1
    by_cases hcn : c = h.nx
    · omega
    · rw [if_neg hcn] at hm; have := s.dom c m hm; omega
/-- A number that names nothing. -/
theorem Sim.skip (s : Sim C B e h w) (l : Loc) : Sim C B (e.add h.nx l) ⟨h.nx + 1, h.tr⟩ w := by
  have hle : e.le (e.add h.nx l) := Emb.le_add l s.fresh
  have old : ∀ c y m, h.get c = some y → e.add h.nx l c = some m → e c = some m := by
    intro c y m hc hm
    have hne : c ≠ h.nx := Nat.ne_of_lt (s.lt hc)
    simpa [Emb.add, hne] using hm
  refine ⟨fun c y hc => ?_, fun c c' y y' m m' hc hc' hy hne hm hm' => s.inj c c' y y' m m' hc hc' hy hne (old c y m hc hm) (old c' y' m' hc' hm'), fun c m hm => ?_, s.low, fun c m hm => hle _ _ (s.gl c m hm)⟩
  · obtain ⟨m, hm, hr, hlt', ho'⟩ := s.blk c y hc
    exact ⟨m, hle _ _ hm, hr.mono hle, hlt', ho'⟩
  · unfold Emb.add at hm
    show c < h.nx + 1
    by_cases hcn : c = h.nx
    · omega
    · rw [if_neg hcn] at hm; have := s.dom c m hm; omega

theorem laid_L {w : World} : ∀ {xs : List Dt} {css : List (List Value)}, xs.length = css.length → (∀ (j : Nat) x cs, xs[j]? = some x → css[j]? = some cs → Laid w x cs) → ∀ (C : Cx) (B : Nat) (e : Emb) (h : H), Sim C B e h w → Ro h →
    ∃ e', e.le e' ∧ VRL e' (Dt.layL xs h).1 css.flatten ∧ Sim C B e' (Dt.layL xs h).2 w ∧ Ro (Dt.layL xs h).2 ∧ (∀ v ∈ (Dt.layL xs h).1, v.flat = true)
  | [], [], _, _, C, B, e, h, s, hr => ⟨e, Emb.le_refl _, .nil, s, hr, fun v hv => by simp [Dt.layL] at hv⟩
  | [], _ :: _, hl, _, _, _, _, _, _, _ => by simp at hl
  | _ :: _, [], hl, _, _, _, _, _, _, _ => by simp at hl
  | x :: xs, cs :: css, hl, hx, C, B, e, h, s, hr => by
    obtain ⟨e1, le1, v1, s1, r1, f1⟩ := hx 0 x cs rfl rfl C B e h s hr
    obtain ⟨e2, le2, v2, s2, r2, f2⟩ := laid_L (xs := xs) (css := css) (by simpa using hl) (fun j x cs h1 h2 => hx (j + 1) x cs (by simpa using h1) (by simpa using h2)) C B e1 _ s1 r1
    refine ⟨e2, Emb.le_trans le1 le2, ?_, s2, r2, fun v hv => ?_⟩
    · rw [List.flatten_cons]; exact (v1.mono le2).append v2
    · simp only [Dt.layL, List.mem_append] at hv
      rcases hv with hv | hv
      · exact f1 v hv
      · exact f2 v hv

theorem laid_R {w : World} : ∀ {xs : List Dt} {css : List (List Value)}, xs.length = css.length → (∀ (j : Nat) x cs, xs[j]? = some x → css[j]? = some cs → Laid w x cs) → ∀ (C : Cx) (B : Nat) (e : Emb) (h : H), Sim C B e h w → Ro h →
    ∃ e', e.le e' ∧ (Dt.layR xs h).1.length = css.length ∧ (∀ (j : Nat) row cs, (Dt.layR xs h).1[j]? = some row → css[j]? = some cs → VRL e' row cs ∧ ∀ v ∈ row, v.flat = true) ∧ Sim C B e' (Dt.layR xs h).2 w ∧ Ro (Dt.layR xs h).2
  | [], [], _, _, C, B, e, h, s, hr => ⟨e, Emb.le_refl _, rfl, fun j row cs hj => by simp [Dt.layR] at hj, s, hr⟩
  | [], _ :: _, hl, _, _, _, _, _, _, _ => by simp at hl
  | _ :: _, [], hl, _, _, _, _, _, _, _ => by simp at hl
  | x :: xs, cs :: css, hl, hx, C, B, e, h, s, hr => by
    obtain ⟨e1, le1, v1, s1, r1, f1⟩ := hx 0 x cs rfl rfl C B e h s hr
    obtain ⟨e2, le2, l2, v2, s2, r2⟩ := laid_R (xs := xs) (css := css) (by simpa using hl) (fun j x cs h1 h2 => hx (j + 1) x cs (by simpa using h1) (by simpa using h2)) C B e1 _ s1 r1
    refine ⟨e2, Emb.le_trans le1 le2, by simp [Dt.layR, l2], fun j row ds hj hd => ?_, s2, r2⟩
    cases j with
    | zero => simp [Dt.layR] at hj hd; subst hj; subst hd; exact ⟨v1.mono le2, f1⟩
    | succ j => exact v2 j row ds (by simpa [Dt.layR] using hj) (by simpa using hd)

/-- The cells of elements, one behind the other, in a block of the world. -/
theorem laid_sl {w : World} {k : Nat} (hk : 0 < k) {xs : List Dt} {css : List (List Value)} {a : Addr} {cap : Nat} (hl : xs.length = css.length) (hcs : ∀ cs ∈ css, cs.length = k) (hx : ∀ (j : Nat) x cs, xs[j]? = some x → css[j]? = some cs → Laid w x cs)
    (hat : ∀ (j : Nat) cs, css[j]? = some cs → ∀ (q : Nat) v, cs[q]? = some v → w.cell? ⟨a.block, a.off + j * k + q, none⟩ = some v) (hcap : xs.length ≤ cap) (hspot : cap ≠ 0 → a.spot = none) : Laid w (.sl k xs) [.slice (some a) xs.length cap] := by
  intro C B e h s hr
  obtain ⟨e1, le1, l1, v1, s1, r1⟩ := laid_R hl hx C B e h s hr
  have ha : a.spot = none → a = ⟨a.block, a.off, none⟩ := fun h => by cases a; simp at h; subst h; rfl
  let l : Loc := ⟨a.block, a.off, k, cap⟩
  have hv : ∀ e2 : Emb, e2 (Dt.layR xs h).2.nx = some l → VRL e2 [V.sl (some ((Dt.layR xs h).2.nx, 0)) xs.length xs.length false] [.slice (some a) xs.length cap] := fun e2 h2 =>
    .cons _ _ _ _ (.sl _ 0 _ _ cap false l a h2 (Nat.le_refl _) hcap (by simp) (fun hc => ⟨by have := ha (hspot hc); simpa [l] using this, by simp [l]⟩)) .nil
  simp only [Dt.lay]
  by_cases he : xs.isEmpty = true
  · rw [if_pos he]
    exact ⟨e1.add (Dt.layR xs h).2.nx l, Emb.le_trans le1 (Emb.le_add l s1.fresh), hv _ (Emb.add_same _ _ _), s1.skip l, fun b x hb => r1 b x hb, fun v hv => by simp at hv; subst hv; rfl⟩
  · rw [if_neg he]
    have hle := Emb.le_add l s1.fresh
    have hne : 0 < xs.length := by cases xs with | nil => simp at he | cons x xs => simp
    obtain ⟨cs0, hcs0⟩ : ∃ cs, css[0]? = some cs := ⟨css[0], List.getElem?_eq_getElem (by omega)⟩
    have hlen0 := hcs cs0 (List.mem_of_getElem? hcs0)
    obtain ⟨v0, hv0⟩ : ∃ v, cs0[0]? = some v := ⟨cs0[0], List.getElem?_eq_getElem (by omega)⟩
    have hc0 := hat 0 cs0 hcs0 0 v0 hv0
    have hlt : a.block < w.heap.size := by
      rcases Nat.lt_or_ge a.block w.heap.size with h1 | h1
      · exact h1
      · simp [World.cell?, Array.getElem?_eq_none h1] at hc0
    refine ⟨e1.add (Dt.layR xs h).2.nx l, Emb.le_trans le1 hle, hv _ (Emb.add_same _ _ _), s1.lay (.rows k (Dt.layR xs h).1 true) l rfl hlt ⟨⟨rfl, hk, by simp⟩, fun r row hrow => ?_⟩ r1, fun b x hb => ?_, fun v hv => by simp at hv; subst hv; rfl⟩
    · have hrlt : r < css.length := by rw [← l1]; exact (List.getElem?_eq_some_iff.1 hrow).1
      obtain ⟨hvr, hfl⟩ := v1 r row css[r] hrow (List.getElem?_eq_getElem hrlt)
      have hck := hcs css[r] (List.getElem_mem hrlt)
      refine ⟨by rw [hvr.length, hck], fun j v hj => ?_⟩
      obtain ⟨u, hu, hvu⟩ := hvr.get j v hj
      exact ⟨u, by have := hat r css[r] (List.getElem?_eq_getElem hrlt) j u hu; simpa [cellAt, l] using this, ⟨hvu.mono hle, hfl v (List.mem_of_getElem? hj)⟩, by simp⟩
    · rw [H.get_push] at hb
      split at hb
      · cases hb; rfl
      · exact r1 b x hb

theorem laid_bs {w : World} {l : List UInt8} {a : Addr} {cap : Nat} (hat : ∀ (j : Nat) c, l[j]? = some c → w.cell? ⟨a.block, a.off + j, none⟩ = some (.int .u8 c.toNat)) (hcap : l.length ≤ cap) (hspot : cap ≠ 0 → a.spot = none) : Laid w (.bs l) [.slice (some a) l.length cap] := by
  intro C B e h s hr
  have ha : a.spot = none → a = ⟨a.block, a.off, none⟩ := fun h => by cases a; simp at h; subst h; rfl
  let lc : Loc := ⟨a.block, a.off, 1, cap⟩
  have hv : ∀ e2 : Emb, e2 h.nx = some lc → VRL e2 [V.sl (some (h.nx, 0)) l.length l.length false] [.slice (some a) l.length cap] := fun e2 h2 =>
    .cons _ _ _ _ (.sl _ 0 _ _ cap false lc a h2 (Nat.le_refl _) hcap (by simp) (fun hc => ⟨by have := ha (hspot hc); simpa [lc] using this, by simp [lc]⟩)) .nil
  simp only [Dt.lay]
  by_cases he : l.isEmpty = true
  · rw [if_pos he]
    exact ⟨e.add h.nx lc, Emb.le_add lc s.fresh, hv _ (Emb.add_same _ _ _), s.skip lc, fun b x hb => hr b x hb, fun v hv => by simp at hv; subst hv; rfl⟩
  · rw [if_neg he]
    have hne : 0 < l.length := by cases l with | nil => simp at he | cons x xs => simp
    have hc0 := hat 0 l[0] (List.getElem?_eq_getElem hne)
    have hlt : a.block < w.heap.size := by
      rcases Nat.lt_or_ge a.block w.heap.size with h1 | h1
      · exact h1
      · simp [World.cell?, Array.getElem?_eq_none h1] at hc0
    refine ⟨e.add h.nx lc, Emb.le_add lc s.fresh, hv _ (Emb.add_same _ _ _), s.lay (.bytes l true) lc rfl hlt ⟨⟨rfl, by simp⟩, fun r c hrow => ⟨by have := hat r c hrow; simpa [cellAt, lc] using this, by simp⟩⟩ hr, fun b x hb => ?_, fun v hv => by simp at hv; subst hv; rfl⟩
    rw [H.get_push] at hb
    split at hb
    · cases hb; rfl
    · exact hr b x hb


/-! ### A reading -/
theorem mapM_get {α β : Type} {f : α → Option β} : ∀ {l : List α} {ys : List β}, l.mapM f = some ys → ys.length = l.length ∧ ∀ (j : Nat) x, l[j]? = some x → ∃ y, ys[j]? = some y ∧ f x = some y
  | [], ys, h => by simp at h; subst h; exact ⟨rfl, fun j x hj => by simp at hj⟩
  | x :: l, ys, h => by
    rw [List.mapM_cons] at h
    simp only [Option.bind_eq_bind, Option.pure_def] at h
    obtain ⟨y, hy, h⟩ := Option.bind_eq_some_iff.1 h
    obtain ⟨ys', hys, h⟩ := Option.bind_eq_some_iff.1 h
    cases h
    obtain ⟨h1, h2⟩ := mapM_get hys
    refine ⟨by simp [h1], fun j z hj => ?_⟩
    cases j with
    | zero => simp at hj; subst hj; exact ⟨y, rfl, hy⟩
    | succ j => exact h2 j z (by simpa using hj)

theorem cell_add {w : World} {a : Addr} {n : Nat} {v : Value} (h : w.cell? (a.add n) = some v) : w.cell? ⟨a.block, a.off + n, none⟩ = some v := by
  unfold Go.Addr.add at h
  split at h
  · rename_i h0
    subst h0
    have hs : a.spot = none := by
      unfold World.cell? at h
      split at h
      · cases hs : a.spot with
        | none => rfl
        | some x => rw [hs] at h; simp at h
      · cases h
    cases a
    simp at hs; subst hs
    exact h
  · exact h
theorem spot_add {w : World} {a : Addr} {v : Value} (h : w.cell? (a.add 0) = some v) : a.spot = none := by
  unfold Go.Addr.add at h
  simp only [if_true] at h
  unfold World.cell? at h
  split at h
  · cases hs : a.spot with
    | none => rfl
    | some x => rw [hs] at h; simp at h
  · cases h
theorem add_block {a : Addr} {n : Nat} : (a.add n).block = a.block ∧ (a.add n).off = a.off + n := by
  unfold Go.Addr.add; split
  · rename_i h0; subst h0; exact ⟨rfl, rfl⟩
  · exact ⟨rfl, rfl⟩
theorem cells_get {w : World} {a : Addr} {n : Nat} {cs : List Value} (h : w.cells? 0 a n = some cs) : cs.length = n ∧ ∀ (q : Nat) v, cs[q]? = some v → w.cell? ⟨a.block, a.off + q, none⟩ = some v := by
  unfold World.cells? at h
  rw [if_pos (Nat.zero_le _)] at h
  obtain ⟨h1, h2⟩ := mapM_get h
  refine ⟨by simpa using h1, fun q v hq => ?_⟩
  have hlt : q < n := by have := (List.getElem?_eq_some_iff.1 hq).1; rw [h1] at this; simpa using this
  obtain ⟨y, hy, hc⟩ := h2 q q (by simp [hlt])
  rw [hq] at hy; cases hy
  exact cell_add hc
theorem cells_spot {w : World} {a : Addr} {n : Nat} {cs : List Value} (hn : 0 < n) (h : w.cells? 0 a n = some cs) : a.spot = none := by
  unfold World.cells? at h
  rw [if_pos (Nat.zero_le _)] at h
  obtain ⟨h1, h2⟩ := mapM_get h
  obtain ⟨y, _, hc⟩ := h2 0 0 (by simp [hn])
  exact spot_add hc

theorem list_of {α : Type} {n : Nat} {p : Nat → α → Prop} (h : ∀ j, j < n → ∃ x, p j x) : ∃ xs : List α, xs.length = n ∧ ∀ (j : Nat) x, xs[j]? = some x → p j x := by
  induction n with
  | zero => exact ⟨[], rfl, fun j x hj => by simp at hj⟩
  | succ n ih =>
    obtain ⟨xs, h1, h2⟩ := ih fun j hj => h j (by omega)
    obtain ⟨x, hx⟩ := h n (by omega)
    refine ⟨xs ++ [x], by simp [h1], fun j y hj => ?_⟩
    by_cases hjn : j < xs.length
    · rw [List.getElem?_append_left hjn] at hj; exact h2 j y hj
    · rw [List.getElem?_append_right (by omega)] at hj
      have : j - xs.length = 0 := by have := (List.getElem?_eq_some_iff.1 hj).1; simp at this; omega
      rw [this] at hj; simp at hj; subst hj
      have : j = n := by omega
      subst this; exact hx

theorem hasA_of {e : Ty} : ∀ {xs : List Dt}, (∀ (j : Nat) x, xs[j]? = some x → Dt.has e x) → Dt.hasA e xs
  | [], _ => by simp [Dt.hasA]
  | x :: xs, h => by
    simp only [Dt.hasA]
    exact ⟨h 0 x rfl, hasA_of fun j y hj => h (j + 1) y (by simpa using hj)⟩
theorem hasA_get {e : Ty} : ∀ {xs : List Dt}, Dt.hasA e xs → ∀ (j : Nat) x, xs[j]? = some x → Dt.has e x
  | [], _, j, x, hj => by simp at hj
  | y :: xs, h, j, x, hj => by
    simp only [Dt.hasA] at h
    cases j with
    | zero => simp at hj; subst hj; exact h.1
    | succ j => exact hasA_get h.2 j x (by simpa using hj)

/-- Elements of a slice, read. -/
theorem elems_get {w : World} {H : Type} {f : List Value → Option (DataW H × List MemPlace)} {a : Addr} {k n : Nat} {elems : List (DataW H × List MemPlace)} (h : (List.range n).mapM (fun i => (w.cells? 0 (a.add (i * k)) k).bind f) = some elems) :
    ∀ j, j < n → ∃ cs d, w.cells? 0 (a.add (j * k)) k = some cs ∧ f cs = some d := by
  intro j hj
  obtain ⟨_, h2⟩ := mapM_get h
  obtain ⟨y, _, hy⟩ := h2 j j (by simp [hj])
  obtain ⟨cs, h3, h4⟩ := Option.bind_eq_some_iff.1 hy
  exact ⟨cs, y, h3, h4⟩

theorem laid_pieces {H : Type} {w : World} {g : TypeId → Option Ty} {f : TypeId → List Value → Option (DataW H × List MemPlace)}
    (hg : ∀ t ty cs d, g t = some ty → f t cs = some d → ∃ x, Dt.has ty x ∧ cs.length = ty.size ∧ Laid w x cs) :
    ∀ (fds : List Go.Field) (off : Nat) (ts : List Ty) (cs : List Value) (ds : List (DataW H × List MemPlace)), tysAt g P off fds = some ts → (fds.mapM fun fd => f fd.type ((cs.drop fd.offset).take (P.cellsOf fd.type))) = some ds →
      ∃ (xs : List Dt) (css : List (List Value)), Dt.hasL ts xs ∧ xs.length = css.length ∧ css.flatten = (cs.drop off).take (Ty.sizes ts) ∧ (∀ (j : Nat) x c, xs[j]? = some x → css[j]? = some c → Laid w x c)
  | [], off, ts, cs, ds, h1, h2 => by
    simp [tysAt] at h1; subst h1
    exact ⟨[], [], by simp [Dt.hasL], rfl, by simp [Ty.sizes], fun j x c hj => by simp at hj⟩
  | fd :: fds, off, ts, cs, ds, h1, h2 => by
    unfold tysAt at h1
    split at h1
    · rename_i hoff
      obtain ⟨ty, hty, h1⟩ := Option.bind_eq_some_iff.1 h1
      split at h1
      · rename_i hsz
        obtain ⟨ts', hts, rfl⟩ := Option.map_eq_some_iff.1 h1
        rw [List.mapM_cons] at h2
        simp only [Option.bind_eq_bind, Option.pure_def] at h2
        obtain ⟨d, hd, h2⟩ := Option.bind_eq_some_iff.1 h2
        obtain ⟨ds', hds, _⟩ := Option.bind_eq_some_iff.1 h2
        obtain ⟨x, hx, hlen, hlay⟩ := hg _ _ _ _ hty hd
        obtain ⟨xs, css, a1, a2, a3, a4⟩ := laid_pieces hg fds (off + ty.size) ts' cs ds' hts hds
        refine ⟨x :: xs, ((cs.drop fd.offset).take (P.cellsOf fd.type)) :: css, by simp only [Dt.hasL]; exact ⟨hx, a1⟩, by simp [a2], ?_, fun j y c hj hc => ?_⟩
        · rw [List.flatten_cons, a3, hoff, ← hsz, Ty.sizes, List.take_add, List.drop_drop]
        · cases j with
          | zero => simp at hj hc; subst hj; subst hc; exact hlay
          | succ j => exact a4 j y c (by simpa using hj) (by simpa using hc)
      · cases h1
    · cases h1

theorem trod_lay {H : Type} {enc : TypeId × Value → H} {w : World} : ∀ (fuel n : Nat) (t : TypeId) (ty : Ty) (cs : List Value) (d : DataW H × List MemPlace), tyOf P n t = some ty → DataW.trod enc P w 0 (fun _ => true) true fuel t cs = some d →
    ∃ x, Dt.has ty x ∧ cs.length = ty.size ∧ Laid w x cs
  | 0, n, t, ty, cs, d, _, h => by simp [DataW.trod] at h
  | fuel + 1, 0, t, ty, cs, d, ht, _ => by simp [tyOf] at ht
  | fuel + 1, n + 1, t, ty, cs, d, ht, h => by
    have ih := fun n t ty cs d => trod_lay (enc := enc) (w := w) fuel n t ty cs d
    unfold tyOf at ht
    unfold DataW.trod at h
    split at ht
    · rename_i hd
      cases ht
      rw [hd] at h
      split at h <;> first | (cases h; done) | (rename_i hx; cases hx; done) | skip
      exact ⟨.b _, by simp [Dt.has], rfl, laid_flat (fun h => rfl) (fun e => .cons _ _ _ _ (.b _) .nil) (by simp [V.flat])⟩
    · rename_i k hd
      cases ht
      rw [hd] at h
      split at h <;> first | (cases h; done) | (rename_i hx; cases hx; done) | skip
      rename_i k1 k2 m hx
      cases hx
      split at h
      · rename_i hw
        obtain ⟨rfl, hw⟩ := hw
        simp only [Lit.wf, Bool.and_eq_true, decide_eq_true_eq] at hw
        exact ⟨.i _ _, by simp only [Dt.has]; exact ⟨trivial, hw⟩, rfl, laid_flat (fun h => rfl) (fun e => .cons _ _ _ _ (.i _ _) .nil) (by simp [V.flat])⟩
      · cases h
    · rename_i hd
      cases ht
      rw [hd] at h
      split at h <;> first | (cases h; done) | (rename_i hx; cases hx; done) | skip
      rename_i str hx
      split at h
      · rename_i hw
        exact ⟨.s str.data.toList, by simp only [Dt.has]; exact hw, rfl, laid_flat (fun h => rfl) (fun e => .cons _ _ _ _ (.s _) .nil) (by simp [V.flat])⟩
      · cases h
    · rename_i el hd
      rw [hd] at h
      have hnil : ∀ ty', (ty' = .bs ∨ ∃ k e, ty' = .sl k e) → ∃ x, Dt.has ty' x ∧ [Value.slice none 0 0].length = ty'.size ∧ Laid w x [Value.slice none 0 0] := by
        rintro ty' (rfl | ⟨k, e, rfl⟩)
        · exact ⟨.nl, by simp [Dt.has], rfl, laid_flat (fun h => rfl) (fun e => .cons _ _ _ _ (.sl0 _) .nil) (by simp [V.flat])⟩
        · exact ⟨.nl, by simp [Dt.has], rfl, laid_flat (fun h => rfl) (fun e => .cons _ _ _ _ (.sl0 _) .nil) (by simp [V.flat])⟩
      split at h <;> first | (cases h; done) | (rename_i hx; cases hx; done) | skip
      · rename_i e1 hx
        refine hnil ty ?_
        split at ht
        · split at ht
          · cases ht; exact .inl rfl
          · cases ht
        · obtain ⟨ty1, _, ht⟩ := Option.bind_eq_some_iff.1 ht
          split at ht
          · cases ht; exact .inr ⟨_, _, rfl⟩
          · cases ht
      · rename_i e1 a len cap hx
        cases hx
        simp only at h
        split at h
        · rename_i hc
          obtain ⟨_, hlc, hcap⟩ := hc
          obtain ⟨elems, hel, h⟩ := Option.bind_eq_some_iff.1 h
          simp only [if_true] at h
          obtain ⟨rest, hre, _⟩ := Option.map_eq_some_iff.1 h
          have hE := elems_get hel
          have hspot : 0 < P.cellsOf el → cap ≠ 0 → a.spot = none := by
            intro hk hc0
            by_cases hl0 : len = 0
            · subst hl0
              obtain ⟨_, h2⟩ := mapM_get hre
              obtain ⟨y, _, hy⟩ := h2 0 0 (by rw [List.getElem?_range (by omega)])
              obtain ⟨cs, h3, _⟩ := Option.bind_eq_some_iff.1 hy
              have := cells_spot hk h3
              unfold Go.Addr.add at this
              simpa using this
            · obtain ⟨cs, _, h3, _⟩ := hE 0 (by omega)
              have := cells_spot hk h3
              unfold Go.Addr.add at this
              simpa using this
          split at ht
          · rename_i hb
            split at ht
            · rename_i hk1
              cases ht
              obtain ⟨l, hl, hlp⟩ := list_of (n := len) (p := fun j (c : UInt8) => w.cell? ⟨a.block, a.off + j, none⟩ = some (.int .u8 c.toNat)) fun j hj => by
                obtain ⟨cs, d', h3, h4⟩ := hE j hj
                obtain ⟨h5, h6⟩ := cells_get h3
                cases fuel with
                | zero => simp [DataW.trod] at h4
                | succ fuel =>
                  unfold DataW.trod at h4
                  rw [hb] at h4
                  split at h4 <;> first | (cases h4; done) | (rename_i hx; cases hx; done) | skip
                  rename_i k1 k2 m hx
                  cases hx
                  split at h4
                  · rename_i hw
                    obtain ⟨rfl, hw⟩ := hw
                    simp only [Lit.wf, Bool.and_eq_true, decide_eq_true_eq, IntKind.min, IntKind.max, IntKind.signed, IntKind.bits] at hw
                    have hc := h6 0 _ rfl
                    rw [add_block.1, add_block.2, hk1] at hc
                    refine ⟨UInt8.ofNat m.toNat, ?_⟩
                    have hm : ((UInt8.ofNat m.toNat).toNat : Int) = m := by
                      simp at hw ⊢
                      omega
                    rw [hm]
                    simpa using hc
                  · cases h4
              subst hl
              refine ⟨.bs l, by simp only [Dt.has]; omega, rfl, laid_bs hlp hlc (hspot (by omega))⟩
            · cases ht
          · obtain ⟨ty1, hty1, ht⟩ := Option.bind_eq_some_iff.1 ht
            split at ht
            · rename_i hsz
              cases ht
              obtain ⟨cd, hcd, hcp⟩ := list_of (n := len) (p := fun j (q : List Value × Dt) => (∀ (i : Nat) v, q.1[i]? = some v → w.cell? ⟨a.block, a.off + j * ty1.size + i, none⟩ = some v) ∧ q.1.length = ty1.size ∧ Dt.has ty1 q.2 ∧ Laid w q.2 q.1) fun j hj => by
                obtain ⟨cs, d', h3, h4⟩ := hE j hj
                obtain ⟨h5, h6⟩ := cells_get h3
                obtain ⟨x, hx, hlen, hlay⟩ := ih _ _ _ _ _ hty1 h4
                refine ⟨(cs, x), fun i v hi => ?_, hlen, hx, hlay⟩
                have := h6 i v hi
                rw [add_block.1, add_block.2, ← hsz.1] at this
                exact this
              have e1 : (cd.map (·.2)).length = len := by simp [hcd]
              have hA : Dt.hasA ty1 (cd.map (·.2)) := hasA_of fun j x hj => by
                rw [List.getElem?_map] at hj
                obtain ⟨q, hq, rfl⟩ := Option.map_eq_some_iff.1 hj
                exact (hcp j q hq).2.2.1
              refine ⟨.sl ty1.size (cd.map (·.2)), by simp only [Dt.has]; exact ⟨trivial, by rw [e1]; omega, hA⟩, rfl, ?_⟩
              · have := laid_sl (w := w) hsz.2 (xs := cd.map (·.2)) (css := cd.map (·.1)) (a := a) (cap := cap) (by simp) (fun cs hcs => ?_) (fun j x cs hj hc => ?_) (fun j cs hc => ?_) (by rw [e1]; exact hlc) (hspot (by omega))
                · rw [e1] at this; exact this
                · obtain ⟨q, hq, rfl⟩ := List.mem_map.1 hcs
                  obtain ⟨j, hj⟩ := List.getElem?_of_mem hq
                  exact (hcp j q hj).2.1
                · rw [List.getElem?_map] at hj hc
                  obtain ⟨q, hq, rfl⟩ := Option.map_eq_some_iff.1 hj
                  rw [hq] at hc; simp at hc; subst hc
                  exact (hcp j q hq).2.2.2
                · rw [List.getElem?_map] at hc
                  obtain ⟨q, hq, rfl⟩ := Option.map_eq_some_iff.1 hc
                  exact (hcp j q hq).1
            · cases ht
        · cases h
    · rename_i fs hd
      rw [hd] at h
      obtain ⟨ts, hts, ht⟩ := Option.bind_eq_some_iff.1 ht
      split at ht
      · rename_i hsz
        cases ht
        have nope : (∀ fs_1 : Array Go.Field, some (TypeDesc.struct fs) = some (TypeDesc.struct fs_1) → False) → False := fun h => h fs rfl
        split at h <;> first | (cases h; done) | (rename_i hx; cases hx; done) | (exact (nope ‹_›).elim) | skip
        rename_i cs1 fs' hx
        cases hx
        split at h
        · rename_i hlen
          obtain ⟨xs0, hxs0, _⟩ := Option.map_eq_some_iff.1 h
          obtain ⟨xs, css, a1, a2, a3, a4⟩ := laid_pieces (w := w) (g := tyOf P n) (f := DataW.trod enc P w 0 (fun _ => true) true fuel) (fun t ty cs d h1 h2 => ih n t ty cs d h1 h2) fs.toList 0 ts _ xs0 hts hxs0
          refine ⟨.st xs, by simp only [Dt.has]; exact a1, by rw [hlen, ← hsz, Ty.size], fun C B e h s hr => ?_⟩
          obtain ⟨e', b1, b2, b3, b4, b5⟩ := laid_L a2 a4 C B e h s hr
          refine ⟨e', b1, ?_, b3, b4, b5⟩
          rw [a3, List.drop_zero, hsz, ← hlen, List.take_length] at b2
          exact b2
        · cases h
      · cases ht
    · cases ht

end Am
