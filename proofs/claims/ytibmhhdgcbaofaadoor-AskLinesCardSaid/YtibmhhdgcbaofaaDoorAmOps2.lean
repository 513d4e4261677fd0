/- AmOps2: each operation of the abstract machine against the model's: the plain ones, memory, struct and slice makers. -/
import Derived.Test.YtibmhhdgcbaofaaDoorAmApp3
namespace Am
set_option linter.unusedVariables false
set_option linter.unusedSimpArgs false
open Go (IntKind BinOp UnOp Value Program TypeId TypeDesc Operand Oper Code Tmp World Addr Obj Act)

variable {P : Program} {C : Cx} {B : Nat} {e e' : Emb} {h h' : H} {w w' : World} {t : Tm} {ρ : Operand → Value} {o : Oper} {v : V}

/-- What an operation comes to, by its kind: a value in the world as it was; a value and one new block; a changed world. -/
def OpRes (k : OpK) (C : Cx) (B : Nat) (e : Emb) (h : H) (w : World) (r : Go.Result Go.Next) (v : V) (h' : H) : Prop :=
  match k with
  | .pure | .read => h' = h ∧ ∃ u, r = .ok (.value u) w ∧ VR e v u
  | .alloc => ∃ (u : Value) (w' : World) (o : Obj) (x : Blk) (l : Loc), r = .ok (.value u) w' ∧ w' = { w with heap := w.heap.push o, drawn := w'.drawn } ∧ l.cb = w.heap.size ∧ h' = h.push x ∧ x.own = true ∧ (∀ e', e.le e' → BlkR C e' x l w') ∧ VR (e.add h.nx l) v u
  | .eff => ∃ u w' e', (r = .ok (.value u) w' ∨ (r = .ok .skip w' ∧ u = Go.undef)) ∧ VR e' v u ∧ Stp C B e h w e' h' w'

/-- The same, of whatever kind. -/
def OpAny (C : Cx) (B : Nat) (e : Emb) (h : H) (w : World) (r : Go.Result Go.Next) (v : V) (h' : H) : Prop :=
  ∃ u w' e', (r = .ok (.value u) w' ∨ (r = .ok .skip w' ∧ u = Go.undef)) ∧ VR e' v u ∧ Stp C B e h w e' h' w'

theorem OpRes.any {k : OpK} (s : Sim C B e h w) {r : Go.Result Go.Next} (hr : OpRes k C B e h w r v h') : OpAny C B e h w r v h' := by
  cases k with
  | pure => obtain ⟨rfl, u, h1, h2⟩ := hr; exact ⟨u, w, e, .inl h1, h2, Stp.refl s⟩
  | read => obtain ⟨rfl, u, h1, h2⟩ := hr; exact ⟨u, w, e, .inl h1, h2, Stp.refl s⟩
  | alloc =>
    obtain ⟨u, w', o, x, l, h1, h20, h3, rfl, h5, h6, h7⟩ := hr
    have h2 := laid_heap h20
    refine ⟨u, w', _, .inl h1, h7, Stp.push s x l (Nat.le_of_eq h3.symm) (fun c hc => ?_) ?_ (h6 _ (Emb.le_add l s.fresh)) (laid_sky h20)⟩
    · rw [h2]; simp [Array.getElem?_push, Nat.ne_of_lt hc]
    · rw [h2, h3]; simp
  | eff => exact hr

theorem OpRes.pure (_ : Sim C B e h w) {r : Go.Result Go.Next} {u : Value} (hr : r = .ok (.value u) w) (hv : VR e v u) : OpRes .pure C B e h w r v h := ⟨rfl, u, hr, hv⟩
theorem OpRes.read (_ : Sim C B e h w) {r : Go.Result Go.Next} {u : Value} (hr : r = .ok (.value u) w) (hv : VR e v u) : OpRes .read C B e h w r v h := ⟨rfl, u, hr, hv⟩

theorem VR.b_inv {x : Bool} {u : Value} (h : VR e (.b x) u) : u = .bool x := by cases h; rfl
theorem VR.i_inv {k : IntKind} {n : Int} {u : Value} (h : VR e (.i k n) u) : u = .int k n := by cases h; rfl
theorem VR.s_inv {l : List UInt8} {u : Value} (h : VR e (.s l) u) : ∃ s : ByteArray, u = .string s ∧ s.data.toList = l := by cases h; exact ⟨_, rfl, rfl⟩
theorem VR.p_inv {b r f : Nat} {u : Value} (h : VR e (.p (some (b, r, f))) u) : ∃ l, e b = some l ∧ u = .pointer (some ⟨l.cb, l.sh + r * l.k + f, none⟩) := by
  cases h with | p _ _ _ l h => exact ⟨l, h, rfl⟩
theorem VR.agg_inv {vs : List V} {u : Value} (h : VR e (.agg vs) u) : ∃ ws : Array Value, u = .agg ws ∧ VRL e vs ws.toList := by cases h with | agg _ ws h => exact ⟨ws, rfl, h⟩

theorem aggOf_sound {g : Bool} {vs : List V} {us : List Value} (hv : VRL e vs us) (h : aggOf g vs = some v) : (g = true ∧ VR e v (.agg us.toArray)) ∨ (g = false ∧ ∃ u, us = [u] ∧ VR e v u) := by
  unfold aggOf at h
  cases g with
  | true => simp at h; subst h; exact .inl ⟨rfl, .agg _ _ (by simpa using hv)⟩
  | false =>
    simp at h
    split at h
    · simp at h; subst h
      cases hv with
      | cons _ u _ _ h1 h2 => cases h2; exact .inr ⟨rfl, u, rfl, h1⟩
    · simp at h

/-! ### Loads and stores -/
theorem loadVar_sound (s : Sim C B e h w) {ty : TypeId} {n b r f : Nat} {g : Bool} {l : Loc} {vs : List V} (hz : szOf P ty = some n) (hg : aggT P ty = some g) (hgn : g = true ∨ n = 1)
    (hl : e b = some l) (hr : h.rd b r f n = some vs) (ha : aggOf g vs = some v) : ∃ u, (Go.loadVar ty ⟨l.cb, l.sh + r * l.k + f, none⟩).run P w = .ok u w ∧ VR e v u := by
  obtain ⟨us, hlen, hvs, hlies⟩ := rd_sound s hl hr
  rcases aggOf_sound hvs ha with ⟨rfl, hv⟩ | ⟨rfl, u, rfl, hv⟩
  · refine ⟨_, ?_, hv⟩
    have := hlies.load (P := P)
    rw [hlen] at this
    simp [Go.loadVar, run_agg hg, run_sz hz, this]
  · refine ⟨u, ?_, hv⟩
    have := hlies 0 u (by simp)
    simp only [Nat.add_zero] at this
    simp [Go.loadVar, run_agg hg, this]

theorem storeVar_sound (s : Sim C B e h w) {ty : TypeId} {n b r f : Nat} {l : Loc} {x : V} {u : Value} (hz : szOf P ty = some n) (hl : e b = some l) (hn : x.cells.length = n) (hw : h.wr b r f x.cells = some h') (hv : VR e x u) :
    ∃ w', (Go.storeVar ty ⟨l.cb, l.sh + r * l.k + f, none⟩ u).run P w = .ok () w' ∧ Stp C B e h w e h' w' := by
  obtain ⟨h1, h2⟩ := wr_sound (P := P) s hl hw hv.cells
  have hlen := hv.cells.length
  refine ⟨_, ?_, h2⟩
  have : u.cells.size = n := by rw [← hn, hlen]; simp
  simp [Go.storeVar, run_sz hz, this, h1]

theorem op_move {x : Operand} {y : AOpd} (ho : o.op = .move x ∨ o.op = .assign x) (s : Sim C B e h w) (hρ : OpdR e t ρ) (hy : opd x = some y) : OpRes .pure C B e h w ((Go.execOp ρ o).run P w) (t.ev y) h := by
  refine OpRes.pure s ?_ (hρ _ _ hy)
  rcases ho with ho | ho <;> simp [Go.execOp, ho]

theorem op_pick {c a b : Operand} {c' a' b' : AOpd} (ho : o.op = .pick c a b) (s : Sim C B e h w) (hρ : OpdR e t ρ) (hc : opd c = some c') (ha : opd a = some a') (hb : opd b = some b')
    (hev : (AOp.pick c' a' b').ev t.ev h = some (v, h')) : OpRes .pure C B e h w ((Go.execOp ρ o).run P w) v h' := by
  simp only [AOp.ev] at hev
  have h1 := hρ _ _ hc
  split at hev
  · rename_i x hx
    simp at hev
    obtain ⟨rfl, rfl⟩ := hev
    rw [hx] at h1
    have := h1.b_inv
    refine OpRes.pure s (u := if x then ρ a else ρ b) ?_ ?_
    · simp [Go.execOp, ho, this, Go.asBool]
    · cases x
      · exact hρ _ _ hb
      · exact hρ _ _ ha
  · simp at hev

theorem op_load {ty : TypeId} {x : Operand} {y : AOpd} {n : Nat} {g : Bool} (ho : o.op = .load ty x) (s : Sim C B e h w) (hρ : OpdR e t ρ) (hy : opd x = some y) (hz : szOf P ty = some n) (hg : aggT P ty = some g)
    (hgn : g = true ∨ n = 1) (hev : (AOp.load n g y).ev t.ev h = some (v, h')) : OpRes .read C B e h w ((Go.execOp ρ o).run P w) v h' := by
  simp only [AOp.ev] at hev
  have h1 := hρ _ _ hy
  split at hev
  · rename_i b r f hx
    obtain ⟨vs, hvs, hev⟩ := Option.bind_eq_some_iff.1 hev
    obtain ⟨v', hv', hev⟩ := Option.bind_eq_some_iff.1 hev
    cases hev
    rw [hx] at h1
    obtain ⟨l, hl, hu⟩ := h1.p_inv
    obtain ⟨u, hrun, hvu⟩ := loadVar_sound (P := P) s hz hg hgn hl hvs hv'
    exact OpRes.read s (u := u) (by simp [Go.execOp, ho, Go.Instr.loadAt, Go.Instr.sureAddr, hu, hrun]) hvu
  · simp at hev

theorem op_store {ty : TypeId} {x y : Operand} {x' y' : AOpd} {n : Nat} (ho : o.op = .store ty x y) (s : Sim C B e h w) (hρ : OpdR e t ρ) (hx : opd x = some x') (hy : opd y = some y') (hz : szOf P ty = some n)
    (hev : (AOp.store n x' y').ev t.ev h = some (v, h')) : OpRes .eff C B e h w ((Go.execOp ρ o).run P w) v h' := by
  simp only [AOp.ev] at hev
  have h1 := hρ _ _ hx
  split at hev
  · rename_i b r f hp
    split at hev
    · rename_i hn
      obtain ⟨h2, hw, hev⟩ := Option.bind_eq_some_iff.1 hev
      cases hev
      rw [hp] at h1
      obtain ⟨l, hl, hu⟩ := h1.p_inv
      obtain ⟨w', hrun, hstp⟩ := storeVar_sound (P := P) s hz hl hn hw (hρ _ _ hy)
      exact ⟨Go.undef, w', e, .inr ⟨by simp [Go.execOp, ho, Go.Instr.storeAt, Go.Instr.sureAddr, hu, hrun], rfl⟩, VR.un, hstp⟩
    · simp at hev
  · simp at hev

/-! ### New variables -/
theorem all_flat {vs : List V} {us : List Value} (hv : VRL e vs us) (hf : vs.all V.flat = true) : ∀ u ∈ us, u.oneCell' = true := flats_one hv hf

theorem newVar_sound {ty : TypeId} {vs : List V} {u : Value} (hv : VRL e vs u.cells.toList) (hne : 0 < vs.length) (hfl : vs.all V.flat = true) :
    (Go.newVar ty u).run P w = .ok ⟨w.heap.size, 0, none⟩ { w with heap := w.heap.push (.cells u.cells ty (0, 0)) } ∧
      (∀ e', e.le e' → BlkR C e' (.rows vs.length [vs] false) ⟨w.heap.size, 0, vs.length, 1⟩ { w with heap := w.heap.push (.cells u.cells ty (0, 0)) }) ∧
      VR (e.add h.nx ⟨w.heap.size, 0, vs.length, 1⟩) (.p (some (h.nx, 0, 0))) (.pointer (some ⟨w.heap.size, 0, none⟩)) := by
  have hlen := hv.length
  refine ⟨by simp [Go.newVar, Go.newRow], fun e' he =>
    blk_rows (cs := u.cells) (el := ty) (fr := (0, 0)) hne ((VRR.one hv rfl hfl).mono he) (push_get (w := w) rfl) (fun j x hj => by simpa using hj) (by simp [hlen]) (fun j _ hx => by have := hx.2; simp at this), ?_⟩
  have := VR.p (e := e.add h.nx ⟨w.heap.size, 0, vs.length, 1⟩) h.nx 0 0 _ (Emb.add_same _ _ _)
  simpa using this

theorem op_alloc {ty : TypeId} {z : List V} (ho : o.op = .alloc ty) (_ : Sim C B e h w) (hz : zeroT P ty = some z) (hev : (AOp.alloc z).ev t.ev h = some (v, h')) : OpRes .alloc C B e h w ((Go.execOp ρ o).run P w) v h' := by
  simp only [AOp.ev] at hev
  split at hev
  · simp at hev
  · rename_i hne
    simp at hev
    obtain ⟨rfl, rfl⟩ := hev
    obtain ⟨zv, hzr, hzv⟩ := run_zero hz w
    have hz0 : 0 < z.length := List.length_pos_iff.2 (fun h0 => hne (.inl h0))
    obtain ⟨hrun, hb, hvr⟩ := newVar_sound (P := P) (C := C) (e := e) (h := h) (w := w) (ty := ty) (hzv e) hz0 (zeroT_flat hz)
    exact ⟨_, _, _, _, _, by simp [Go.execOp, ho, Go.Instr.alloc, hzr, hrun], rfl, rfl, rfl, rfl, hb, hvr⟩

theorem op_box {ty : TypeId} {x : Operand} {y : AOpd} {k : Nat} (ho : o.op = .box ty x) (_ : Sim C B e h w) (hρ : OpdR e t ρ) (hy : opd x = some y) (hev : (AOp.box k y).ev t.ev h = some (v, h')) :
    OpRes .alloc C B e h w ((Go.execOp ρ o).run P w) v h' := by
  simp only [AOp.ev] at hev
  split at hev
  · rename_i hc
    simp at hev
    obtain ⟨rfl, rfl⟩ := hev
    obtain ⟨h1, h2, h3⟩ := hc
    subst h1
    obtain ⟨hrun, hb, hvr⟩ := newVar_sound (P := P) (C := C) (e := e) (h := h) (w := w) (ty := ty) (hρ _ _ hy).cells h2 h3
    exact ⟨_, _, _, _, _, by simp [Go.execOp, ho, Go.Instr.box, hrun], rfl, rfl, rfl, rfl, hb, hvr⟩
  · simp at hev

/-! ### Pure operations on numbers, strings, tests -/
theorem bits_sound {op : BinOp} {k : IntKind} {a b n : Int} (h : bitsOp op k a b = some n) : (Go.Op.intBits op k a b).run P w = .ok (.int k n) w := by
  unfold bitsOp at h
  cases op <;> simp at h <;> subst h <;> simp [Go.Op.intBits]

theorem toList_data (s : ByteArray) : s.toList = s.data.toList := by
  unfold ByteArray.toList
  have hsz : s.data.toList.length = s.size := Array.length_toList
  have key : ∀ (n i : Nat) (acc : List UInt8), s.size - i = n → ByteArray.toList.loop s i acc = acc.reverse ++ s.data.toList.drop i := by
    intro n
    induction n with
    | zero =>
      intro i acc hn
      unfold ByteArray.toList.loop
      have : ¬ i < s.size := by omega
      rw [if_neg this]
      rw [List.drop_eq_nil_of_le (by omega)]
      simp
    | succ n ih =>
      intro i acc hn
      unfold ByteArray.toList.loop
      have hlt : i < s.size := by omega
      rw [if_pos hlt, ih (i + 1) _ (by omega)]
      have hl : i < s.data.toList.length := by omega
      have hg : s.get! i = s.data.toList[i] := by
        show s.data[i]! = _
        rw [getElem!_pos s.data i hlt]
        simp
      rw [List.drop_eq_getElem_cons hl, hg]
      simp
  have := key (s.size - 0) 0 [] rfl
  simpa using this

theorem beq_str (a b : ByteArray) : (a.toList == b.toList) = decide (a.data.toList = b.data.toList) := by
  rw [toList_data, toList_data]
  rw [Bool.eq_iff_iff]; simp

theorem bin_sound {op : BinOp} {ty : TypeId} {x y : V} {a b : Value} (hx : VR e x a) (hy : VR e y b) (hv : bin op x y = some v) : ∃ u, (Go.binOp op ty a b).run P w = .ok u w ∧ VR e v u := by
  unfold bin at hv
  split at hv
  · rename_i k a' k' b'
    have h1 := hx.i_inv; have h2 := hy.i_inv
    subst h1 h2
    have shift : ∀ op, (op = .shl ∨ op = .shr) → shiftI op k a' b' = some v → ∃ u, (Go.Op.shift op k a' k' b').run P w = .ok u w ∧ VR e v u := by
      intro op hop hs
      unfold shiftI at hs
      split at hs
      · simp at hs
      · rename_i hneg
        rcases hop with rfl | rfl <;> simp at hs <;> subst hs <;> refine ⟨_, ?_, .i _ _⟩ <;> simp [Go.Op.shift, hneg] <;> rfl
    have int : op ≠ .shl → op ≠ .shr → k = k' → binI op k a' b' = some v → ∃ u, (Go.binOp op ty (.int k a') (.int k' b')).run P w = .ok u w ∧ VR e v u := by
      intro hs1 hs2 hkk hb
      subst hkk
      unfold binI at hb
      cases op <;> simp at hb hs1 hs2 <;> first
        | (obtain ⟨n, hn, rfl⟩ := hb
           exact ⟨_, by simp only [Go.binOp, ne_eq, not_true_eq_false, if_false]; exact bits_sound hn, .i _ _⟩)
        | (obtain ⟨h0, rfl⟩ := hb
           refine ⟨_, ?_, .i _ _⟩
           simp [Go.binOp, Go.Op.intDiv, h0]; done)
        | (subst hb
           refine ⟨_, ?_, .i _ _⟩
           simp [Go.binOp, Go.Op.intArith]; done)
        | (subst hb
           refine ⟨.bool _, ?_, .b _⟩
           simp [Go.binOp, Go.Op.intCmp, bne, BEq.beq]; done)
    cases op <;> simp only at hv <;> first
      | (exact shift _ (by simp) hv)
      | (split at hv
         · rename_i hkk; exact int (by simp) (by simp) hkk hv
         · simp at hv)
  · rename_i a' b'
    obtain ⟨sa, rfl, rfl⟩ := hx.s_inv
    obtain ⟨sb, rfl, rfl⟩ := hy.s_inv
    unfold binS at hv
    cases op <;> simp at hv
    · obtain ⟨hle, rfl⟩ := hv
      refine ⟨.string (sa ++ sb), ?_, ?_⟩
      · have : ¬ (((sa.size + sb.size : Nat) : Int) > IntKind.i64.max) := by
          have h1 : IntKind.i64.max = 9223372036854775807 := by decide
          have h2 : sa.data.toList.length = sa.size := Array.length_toList
          have h3 : sb.data.toList.length = sb.size := Array.length_toList
          rw [h1]
          simp only [Array.length_toList] at hle h2 h3
          omega
        simp only [Go.binOp, Go.Op.stringOp]
        rw [if_neg this]
        rfl
      · have := VR.s (e := e) (sa ++ sb)
        simpa [ByteArray.toList_data_append] using this
    · subst hv
      refine ⟨_, by simp only [Go.binOp, Go.Op.stringOp, beq_str]; rfl, ?_⟩
      simp only [Array.toList_inj] at *
      exact .b _
    · subst hv
      refine ⟨_, by simp only [Go.binOp, Go.Op.stringOp, beq_str]; rfl, ?_⟩
      have e1 : decide (sa.data.toList = sb.data.toList) = decide (sa.data = sb.data) := by simp
      rw [e1]
      exact .b _
  · simp at hv

theorem guard_sound {op : BinOp} {ty : TypeId} {X Y : Operand} {x y : V} {a b : Value} (hx : VR e x a) (hy : VR e y b) (h : (x ≠ .nifc ∨ y ≠ .nifc) ∧ (∀ vs, x ≠ .agg vs)) : (Go.eqGuard op ty X Y a b).run P w = .ok () w := by
  unfold Go.eqGuard
  obtain ⟨h1, h2⟩ := h
  cases op <;> first
    | rfl
    | (cases hx <;> first
        | rfl
        | (exact absurd rfl (h2 _))
        | (cases hy <;> first
            | rfl
            | (simp at h1; done)))

theorem op_bin {op : BinOp} {ty yt : TypeId} {X Y : Operand} {x y : AOpd} (ho : o.op = .binOp op ty X Y yt) (s : Sim C B e h w) (hρ : OpdR e t ρ) (hx : opd X = some x) (hy : opd Y = some y)
    (hev : (AOp.bin op x y).ev t.ev h = some (v, h')) : OpRes .pure C B e h w ((Go.execOp ρ o).run P w) v h' := by
  simp only [AOp.ev] at hev
  obtain ⟨u, hu, hev⟩ := Option.bind_eq_some_iff.1 hev
  cases hev
  obtain ⟨uv, hrun, hvr⟩ := bin_sound (P := P) (w := w) (ty := ty) (hρ _ _ hx) (hρ _ _ hy) hu
  have hg := guard_sound (P := P) (w := w) (op := op) (ty := ty) (X := X) (Y := Y) (hρ _ _ hx) (hρ _ _ hy) (by
    unfold bin at hu
    split at hu
    · rename_i h1 h2; simp [h1]
    · rename_i h1 h2; simp [h1]
    · simp at hu)
  exact OpRes.pure s (u := uv) (by simp [Go.execOp, ho, hg, hrun]) hvr

theorem op_eq {op : BinOp} {ty yt : TypeId} {X Y : Operand} {x y : AOpd} {d : TypeDesc} {k : EqK} (ho : o.op = .binOp op ty X Y yt) (hop : op = .eql ∨ op = .neq) (s : Sim C B e h w) (hρ : OpdR e t ρ) (hx : opd X = some x) (hy : opd Y = some y)
    (hd : P.underlying ty = some d) (hk : eqKind d = some k) (hev : (AOp.eq (op == .neq) k x y).ev t.ev h = some (v, h')) : OpRes .pure C B e h w ((Go.execOp ρ o).run P w) v h' := by
  simp only [AOp.ev] at hev
  obtain ⟨r, hr, hev⟩ := Option.bind_eq_some_iff.1 hev
  cases hev
  have vx := hρ _ _ hx
  have vy := hρ _ _ hy
  have hg := guard_sound (P := P) (w := w) (op := op) (ty := ty) (X := X) (Y := Y) vx vy (by
    unfold eqV at hr
    split at hr <;> simp_all)
  have heq : (Go.Op.equal ty (ρ X) (ρ Y)).run P w = .ok r w := by
    unfold Go.Op.equal Go.Op.maxDepth Go.Op.equalIn
    simp only [Go.Sem.run_bind, Go.run_underlying hd, Go.Result.andThen_ok]
    generalize ρ X = a at *
    generalize ρ Y = b at *
    generalize t.ev x = xv at *
    generalize t.ev y = yv at *
    clear hg ho
    unfold eqV at hr
    unfold eqKind at hk
    split at hk <;> simp at hk <;> subst hk <;> split at hr <;> simp at hr <;> (try subst hr) <;> cases vx <;> cases vy <;> simp_all
  have hbin : (Go.binOp op ty (ρ X) (ρ Y)).run P w = .ok (.bool (if (op == .neq) then !r else r)) w := by
    generalize ρ X = a at *
    generalize ρ Y = b at *
    generalize t.ev x = xv at *
    generalize t.ev y = yv at *
    clear hg ho
    rcases hop with rfl | rfl
    · unfold eqV at hr
      split at hr <;> simp at hr <;> cases vx <;> cases vy <;> simp [Go.binOp, heq]
    · unfold eqV at hr
      split at hr <;> simp at hr <;> cases vx <;> cases vy <;> simp [Go.binOp, heq]
  exact OpRes.pure s (u := .bool _) (by simp [Go.execOp, ho, hg, hbin]) (.b _)

end Am
