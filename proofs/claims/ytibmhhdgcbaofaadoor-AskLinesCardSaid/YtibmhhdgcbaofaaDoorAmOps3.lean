/- AmOps3: the operations, further: tests, conversions, cuts, places, indexes. -/
import Derived.Test.YtibmhhdgcbaofaaDoorAmOps2
namespace Am
set_option linter.unusedVariables false
set_option linter.unusedSimpArgs false
open Go (IntKind BinOp UnOp Value Program TypeId TypeDesc Operand Oper Code Tmp World Addr Obj Act)

variable {P : Program} {C : Cx} {B : Nat} {e e' : Emb} {h h' : H} {w w' : World} {t : Tm} {ρ : Operand → Value} {o : Oper} {v : V}

theorem VR.f_inv {c : Cal} {vs : List V} {u : Value} (h : VR e (.f c vs) u) : (∃ f ws, c = .fn f ∧ u = .func (.func f) #[] ws ∧ VRL e vs ws.toList) ∨ ∃ b l, c = .yl b ∧ vs = [] ∧ u = .func (.yield l.cb) #[] #[] ∧ e b = some l := by
  cases h with
  | fn f _ ws h => exact .inl ⟨f, ws, rfl, rfl, h⟩
  | yl b l h => exact .inr ⟨b, l, rfl, rfl, rfl, h⟩
theorem VR.ifc_inv {ty : Nat} {x : V} {u : Value} (h : VR e (.ifc ty x) u) : ∃ y, u = .iface ty y ∧ VR e x y := by cases h with | ifc _ _ y h => exact ⟨y, rfl, h⟩

theorem op_nilCheck {X : Operand} {x : AOpd} (ho : o.op = .nilCheck X) (s : Sim C B e h w) (hρ : OpdR e t ρ) (hx : opd X = some x)
    (hev : (AOp.nilCheck x).ev t.ev h = some (v, h')) : OpRes .pure C B e h w ((Go.execOp ρ o).run P w) v h' := by
  simp only [AOp.ev] at hev
  have vx := hρ _ _ hx
  split at hev <;> simp at hev <;> obtain ⟨rfl, rfl⟩ := hev <;> rename_i hp <;> rw [hp] at vx
  · refine OpRes.pure s (u := ρ X) ?_ vx
    obtain ⟨l, _, hu⟩ := vx.p_inv
    simp [Go.execOp, ho, hu]
  · refine OpRes.pure s (u := ρ X) ?_ vx
    rcases vx.f_inv with ⟨f, ws, _, hu, _⟩ | ⟨b, l, _, _, hu, _⟩ <;> simp [Go.execOp, ho, hu]
  · refine OpRes.pure s (u := ρ X) ?_ vx
    obtain ⟨u, hu, _⟩ := vx.ifc_inv
    simp [Go.execOp, ho, hu]

theorem op_un {op : UnOp} {ty : TypeId} {X : Operand} {x : AOpd} (ho : o.op = .unOp op ty X) (s : Sim C B e h w) (hρ : OpdR e t ρ) (hx : opd X = some x)
    (hev : (AOp.un op x).ev t.ev h = some (v, h')) : OpRes .pure C B e h w ((Go.execOp ρ o).run P w) v h' := by
  simp only [AOp.ev] at hev
  have vx := hρ _ _ hx
  obtain ⟨r, hr, hev⟩ := Option.bind_eq_some_iff.1 hev
  cases hev
  unfold Am.un at hr
  split at hr
  · rename_i hp; rw [hp] at vx; simp at hr; subst hr
    have := vx.i_inv
    exact OpRes.pure s (u := .int _ _) (by simp [Go.execOp, ho, this, Go.Op.unary, Go.Op.intArith]) (.i _ _)
  · rename_i hp; rw [hp] at vx; simp at hr; subst hr
    have := vx.b_inv
    exact OpRes.pure s (u := .bool _) (by simp [Go.execOp, ho, this, Go.Op.unary]) (.b _)
  · rename_i hp; rw [hp] at vx
    have := vx.i_inv
    obtain ⟨n, hn, rfl⟩ := Option.map_eq_some_iff.1 hr
    exact OpRes.pure s (u := .int _ n) (by simp [Go.execOp, ho, this, Go.Op.unary, bits_sound hn]) (.i _ _)
  · simp at hr

/-! ### Conversions -/
theorem op_convI {a b : TypeId} {X : Operand} {x : AOpd} {k1 k2 : IntKind} (ho : o.op = .convert a b X) (s : Sim C B e h w) (hρ : OpdR e t ρ) (hx : opd X = some x) (ha : P.underlying a = some (.int k1)) (hb : P.underlying b = some (.int k2))
    (hev : (AOp.convI k2 x).ev t.ev h = some (v, h')) : OpRes .pure C B e h w ((Go.execOp ρ o).run P w) v h' := by
  simp only [AOp.ev] at hev
  have vx := hρ _ _ hx
  split at hev
  · rename_i hp; rw [hp] at vx; simp at hev; obtain ⟨rfl, rfl⟩ := hev
    have := vx.i_inv
    exact OpRes.pure s (u := .int _ _) (by simp [Go.execOp, ho, this, Go.convert, Go.run_underlying ha, Go.run_underlying hb, Go.Conv.intToInt]) (.i _ _)
  · simp at hev
theorem op_convSS {a b : TypeId} {X : Operand} {x : AOpd} (ho : o.op = .convert a b X) (s : Sim C B e h w) (hρ : OpdR e t ρ) (hx : opd X = some x) (ha : P.underlying a = some .string) (hb : P.underlying b = some .string)
    (hev : (AOp.convSS x).ev t.ev h = some (v, h')) : OpRes .pure C B e h w ((Go.execOp ρ o).run P w) v h' := by
  simp only [AOp.ev] at hev
  have vx := hρ _ _ hx
  split at hev
  · rename_i hp; rw [hp] at vx; simp at hev; obtain ⟨rfl, rfl⟩ := hev
    obtain ⟨b', hb', _⟩ := vx.s_inv
    exact OpRes.pure s (u := ρ X) (by simp [Go.execOp, ho, hb', Go.convert, Go.run_underlying ha, Go.run_underlying hb]) vx
  · simp at hev

theorem byte_desc {ty : TypeId} (hb : isByte P ty = some true) : P.underlying ty = some (.int .u8) := by
  unfold isByte at hb
  split at hb <;> simp_all

theorem loadBytes_run {cb off : Nat} {bs : List UInt8} (hl : Lies w cb off (bcells bs)) : (Go.loadCells ⟨cb, off, none⟩ bs.length).run P w = .ok (bcells bs).toArray w := by
  have := hl.load (P := P)
  simpa [bcells] using this

theorem bytesLoop (bs : List UInt8) (acc : ByteArray) : (forIn (bcells bs) acc (fun (c : Value) (r : ByteArray) => (match c with
      | .int .u8 n => pure (ForInStep.yield (r.push (UInt8.ofNat n.toNat)))
      | _ => do
        Go.stuck "bytesToString: byte expected"
        pure (ForInStep.yield r) : Go.Sem (ForInStep ByteArray)))).run P w = .ok ⟨acc.data ++ bs.toArray⟩ w := by
  induction bs generalizing acc with
  | nil => simp [bcells]
  | cons b bs ih =>
    simp only [bcells, List.map_cons, List.forIn_cons, Go.Sem.run_bind, Go.Sem.run_pure, Go.Result.andThen_ok]
    rw [show (List.map (fun (c : UInt8) => Value.int .u8 c.toNat) bs) = bcells bs from rfl, ih]
    congr 1
    have : UInt8.ofNat (Int.toNat (b.toNat : Int)) = b := by simp
    rw [this]
    apply ByteArray.ext
    simp [ByteArray.push]

theorem op_convBS {a b el : TypeId} {X : Operand} {x : AOpd} (ho : o.op = .convert a b X) (s : Sim C B e h w) (hρ : OpdR e t ρ) (hx : opd X = some x) (ha : P.underlying a = some (.slice el)) (hb : P.underlying b = some .string)
    (hel : isByte P el = some true) (hev : (AOp.convBS x).ev t.ev h = some (v, h')) : OpRes .read C B e h w ((Go.execOp ρ o).run P w) v h' := by
  simp only [AOp.ev] at hev
  have vx := hρ _ _ hx
  split at hev
  · rename_i a' n cp ex hp
    rw [hp] at vx
    obtain ⟨bs, hbs, hev⟩ := Option.bind_eq_some_iff.1 hev
    cases hev
    obtain ⟨hlen, A, c, hu, hl⟩ := bseg_sound s hbs vx (Nat.le_refl _)
    have key : (Go.Conv.bytesToString (.slice A n c)).run P w = .ok (.string ⟨bs.toArray⟩) w := by
      have h0 : n = 0 → bs = [] := fun h0 => List.length_eq_zero_iff.1 (by omega)
      cases A with
      | none =>
        rcases hl with hl | ⟨_, _, hA, _⟩
        · rw [h0 hl]; rfl
        · cases hA
      | some ad =>
        have hload : (Go.loadCells ad n).run P w = .ok (bcells bs).toArray w := by
          rcases hl with hl | ⟨cb, off, hA, hl⟩
          · rw [h0 hl, hl]; rfl
          · cases hA; rw [← hlen]; exact loadBytes_run hl
        simp only [Go.Conv.bytesToString, Go.Sem.run_bind, hload, Go.Result.andThen_ok]
        have := bytesLoop (P := P) (w := w) bs ByteArray.empty
        simp only [List.forIn_toArray]
        refine Eq.trans (congrArg (fun r => Go.Result.andThen r (fun a w' => Go.Sem.run P (pure (Value.string a)) w')) this) ?_
        simp
    refine OpRes.read s (u := .string ⟨bs.toArray⟩) ?_ ?_
    · simp only [Go.execOp, ho, hu, Go.convert, Go.Sem.run_bind, Go.run_underlying ha, Go.run_underlying hb, Go.run_underlying (byte_desc hel), Go.Result.andThen_ok, key, Go.Sem.run_pure]
    · exact VR.s ⟨bs.toArray⟩
  · simp at hev

theorem op_convSB {a b el : TypeId} {X : Operand} {x : AOpd} (ho : o.op = .convert a b X) (s : Sim C B e h w) (hρ : OpdR e t ρ) (hx : opd X = some x) (ha : P.underlying a = some .string) (hb : P.underlying b = some (.slice el))
    (hel : isByte P el = some true) (hev : (AOp.convSB x).ev t.ev h = some (v, h')) : OpRes .alloc C B e h w ((Go.execOp ρ o).run P w) v h' := by
  simp only [AOp.ev] at hev
  have vx := hρ _ _ hx
  split at hev
  · rename_i l hp
    rw [hp] at vx; simp at hev; obtain ⟨rfl, rfl⟩ := hev
    obtain ⟨b', hb', hl⟩ := vx.s_inv
    have hf : (Go.Question.appendCap b'.size 0 el).forced = false := rfl
    let cp := (Go.Question.appendCap b'.size 0 el).cut (w.tape w.drawn (Go.Question.appendCap b'.size 0 el))
    have hcp : b'.size ≤ cp := by show b'.size ≤ b'.size + _; omega
    let cs : Array Value := (b'.data.map fun (c : UInt8) => Value.int .u8 c.toNat) ++ Array.replicate (cp - b'.size) (.int .u8 0)
    have hsz : b'.data.size = b'.size := rfl
    have hcs : cs.size = cp := by simp [cs, hsz]; omega
    let w1 : World := { w with drawn := w.drawn + 1, heap := w.heap.push (.cells cs el (cp, cp + 1)) }
    have hrun : (Go.Conv.stringToBytes el b').run P w = .ok (.slice (some ⟨w.heap.size, 0, none⟩) b'.size cp) w1 := by
      simp only [Go.Conv.stringToBytes, Go.Sem.run_bind, Go.run_choose, hf, Bool.false_eq_true, if_false, Go.Result.andThen_ok, Go.newRow, Go.run_newObj, Go.Sem.run_pure, Go.markStringish, Go.run_shape]
      have hsh : (({ w with drawn := w.drawn + 1 } : World).heap.push (Obj.cells cs el (0, 0)))[w.heap.size]? = some (Obj.cells cs el (0, 0)) := by simp
      simp only [World.shape?]
      rw [show (({ heap := w.heap.push (Obj.cells ((Array.map (fun b => Value.int IntKind.u8 ↑b.toNat) b'.data) ++ Array.replicate ((Go.Question.appendCap b'.size 0 el).cut (w.tape w.drawn (Go.Question.appendCap b'.size 0 el)) - b'.size) (Value.int IntKind.u8 0)) el (0, 0)), tape := w.tape, drawn := w.drawn + 1, os := w.os, output := w.output } : World).heap[w.heap.size]?) = some (Obj.cells cs el (0, 0)) from hsh]
      simp only [Go.run_freeze, Go.Result.andThen_ok]
      congr 1
      simp only [World.freeze, Nat.one_ne_zero, if_false]
      simp only [w1]
      congr 1
      apply Array.ext_getElem?
      intro i
      simp only [Array.getElem?_modify, Array.getElem?_push]
      by_cases hi : w.heap.size = i
      · subst hi
        simp [hcs]
        rfl
      · rw [if_neg hi, if_neg (fun hh => hi hh.symm), if_neg (fun hh => hi hh.symm)]
    have hbk : ∀ e', e.le e' → BlkR C e' (.bytes l false) ⟨w.heap.size, 0, 1, cp⟩ w1 := fun e' _ => by
      refine blk_bytes (push_get (w := w) rfl) (fun j c hj => ?_) (Nat.le_of_eq hcs.symm) (fun j hj hx => by rw [hcs] at hj; exact absurd hx.1 (Nat.not_le.2 hj)) (.inr (Nat.le_of_eq hcs))
      have hlt : j < l.length := (List.getElem?_eq_some_iff.1 hj).1
      have h2 : b'.data[j]? = some c := by rw [← hl] at hj; simpa using hj
      have hlt2 : j < (b'.data.map fun (c : UInt8) => Value.int .u8 c.toNat).size := by simp; rw [← hl] at hlt; simpa using hlt
      rw [Array.getElem?_append_left hlt2]
      simp [h2]
    refine ⟨.slice (some ⟨w.heap.size, 0, none⟩) b'.size cp, w1, .cells cs el (cp, cp + 1), _, ⟨w.heap.size, 0, 1, cp⟩, ?_, rfl, rfl, rfl, rfl, hbk, ?_⟩
    · simp only [Go.execOp, ho, hb', Go.convert, Go.Sem.run_bind, Go.run_underlying ha, Go.run_underlying hb, Go.run_underlying (byte_desc hel), Go.Result.andThen_ok, hrun, Go.Sem.run_pure]
    · have hl2 : l.length = b'.size := by rw [← hl]; exact Array.length_toList
      rw [hl2]
      exact .sl _ 0 _ _ cp false ⟨w.heap.size, 0, 1, cp⟩ _ (Emb.add_same _ _ _) (Nat.le_refl _) hcp (by simp) (fun _ => ⟨by simp, by simp⟩)
  · simp at hev

theorem op_convRS {a b : TypeId} {k : IntKind} {X : Operand} {x : AOpd} (ho : o.op = .convert a b X) (s : Sim C B e h w) (hρ : OpdR e t ρ) (hx : opd X = some x) (ha : P.underlying a = some (.int k)) (hb : P.underlying b = some .string)
    (hev : (AOp.convRS x).ev t.ev h = some (v, h')) : OpRes .pure C B e h w ((Go.execOp ρ o).run P w) v h' := by
  simp only [AOp.ev] at hev
  have vx := hρ _ _ hx
  split at hev
  · rename_i k' n hp
    rw [hp] at vx; simp at hev; obtain ⟨rfl, rfl⟩ := hev
    have hu := vx.i_inv
    refine OpRes.pure s (u := .string (Go.Utf8.encode n)) ?_ (.s _)
    simp only [Go.execOp, ho, hu, Go.convert, Go.Sem.run_bind, Go.run_underlying ha, Go.run_underlying hb, Go.Result.andThen_ok, Go.Conv.intToString, Go.Sem.run_pure]
  · simp at hev
theorem mild_freeze {l : Loc} {w : World} {cs : Array Value} {el : TypeId} {lo hi : Nat} (hh : w.heap[l.cb]? = some (.cells cs el (lo, hi))) (hm : lo = hi ∨ cs.size ≤ lo) :
    ∃ lo' hi', (w.freeze ⟨l.cb, cs.size, none⟩ 1).heap[l.cb]? = some (.cells cs el (lo', hi')) ∧ cs.size ≤ lo' := by
  unfold World.freeze
  rw [if_neg (by decide)]
  simp only [Array.getElem?_modify, if_true, hh, Option.map_some]
  refine ⟨(if (lo == hi) = true then (cs.size, cs.size + 1) else (min lo cs.size, max hi (cs.size + 1))).1, (if (lo == hi) = true then (cs.size, cs.size + 1) else (min lo cs.size, max hi (cs.size + 1))).2, rfl, ?_⟩
  split
  · exact Nat.le_refl _
  · rename_i hne
    rcases hm with hm | hm
    · exact absurd (by simpa using hm) hne
    · simp only; omega
theorem op_convBB {a b el el0 : TypeId} {X : Operand} {x : AOpd} (ho : o.op = .convert a b X) (s : Sim C B e h w) (hρ : OpdR e t ρ) (hx : opd X = some x) (hab : a = b) (ha : P.underlying a = some (.slice el0)) (hb : P.underlying b = some (.slice el))
    (hel : isByte P el = some true) (hev : (AOp.convBB x).ev t.ev h = some (v, h')) : OpRes .eff C B e h w ((Go.execOp ρ o).run P w) v h' := by
  subst hab
  rw [hb] at ha; cases ha
  simp only [AOp.ev] at hev
  have vx := hρ _ _ hx
  split at hev
  · rename_i bl r n c ex hp
    rw [hp] at vx
    split at hev
    · rename_i bs hg
      cases hev
      generalize hu : ρ X = u at vx
      cases vx with
      | sl _ _ _ _ c' _ l ad h0 h1 h2 h3 h4 =>
        have h4 := (h4 (by omega)).1
        subst h4
        obtain ⟨l', hl', hbr, hlt, ho'⟩ := s.blk _ _ hg
        rw [h0] at hl'; cases hl'
        obtain ⟨⟨hk, hroom⟩, hcells⟩ := hbr
        obtain ⟨hr, cs, elt, lo, hi, hh, hm⟩ := hroom rfl
        obtain ⟨lo', hi', hh', hle⟩ := mild_freeze hh hm
        have hsh : w.shape? l.cb = some (elt, cs.size) := by simp only [World.shape?, hh]
        have hrun : (Go.markStringish ⟨l.cb, l.sh + r * l.k, none⟩).run P w = .ok () (w.freeze ⟨l.cb, cs.size, none⟩ 1) := by
          simp only [Go.markStringish, Go.Sem.run_bind, Go.run_shape, hsh, Go.Result.andThen_ok, Go.run_freeze]
        have hcell : ∀ q, cellAt (w.freeze ⟨l.cb, cs.size, none⟩ 1) l.cb q = cellAt w l.cb q := fun q => by simp only [cellAt, World.cell?, hh, hh']
        have hcold : ∀ q, (cellAt w l.cb q).isSome = true → cold (w.freeze ⟨l.cb, cs.size, none⟩ 1) l.cb q := fun q hq => by
          simp only [cellAt, World.cell?, hh, Option.isSome_none, Bool.false_eq_true, if_false] at hq
          have hq : q < cs.size := by
            rcases Nat.lt_or_ge q cs.size with h | h
            · exact h
            · rw [Array.getElem?_eq_none h] at hq; cases hq
          simp only [cold, World.frozen?, hh', Bool.and_eq_false_iff, decide_eq_false_iff_not]
          left; omega
        refine ⟨_, _, e, .inl ?_, VR.sl bl r n (c + 1) c' false l _ h0 h1 h2 (by simp) (fun _ => ⟨rfl, ?_⟩), Stp.set s hg rfl h0 (fun q hq => ?_) ?_ ⟨⟨hk, fun _ => ⟨fun q hq => ⟨?_, ?_⟩, cs, elt, lo', hi', hh', .inr hle⟩⟩, fun q ch hq => ⟨?_, fun _ => ?_⟩⟩ ?_⟩
        · simp only [Go.execOp, ho, hu, Go.convert, Go.Sem.run_bind, Go.run_underlying hb, Go.run_underlying (byte_desc hel), Go.Result.andThen_ok, beq_self_eq_true, hrun, Go.Sem.run_pure]
        · omega
        · unfold World.freeze
          rw [if_neg (by decide)]
          simp only [Array.getElem?_modify]
          rw [if_neg (fun hh => hq hh.symm)]
        · unfold World.freeze
          rw [if_neg (by decide)]
          simp
        · rw [hcell]; exact (hr q hq).1
        · exact hcold _ (hr q hq).1
        · rw [hcell]; exact (hcells q ch hq).1
        · exact hcold _ (by rw [(hcells q ch hq).1]; rfl)
        · unfold World.freeze
          rw [if_neg (by decide)]
          exact ⟨rfl, rfl, rfl⟩
    · simp at hev
  · simp at hev

/-! ### Makers -/
theorem op_mkI {ty : TypeId} {X : Operand} {x : AOpd} {d : TypeDesc} (ho : o.op = .makeInterface ty X) (s : Sim C B e h w) (hρ : OpdR e t ρ) (hx : opd X = some x) (hd : P.underlying ty = some d) (hn : ∀ ms, d ≠ .interface ms)
    (hev : (AOp.mkI ty x).ev t.ev h = some (v, h')) : OpRes .pure C B e h w ((Go.execOp ρ o).run P w) v h' := by
  simp only [AOp.ev] at hev
  simp at hev; obtain ⟨rfl, rfl⟩ := hev
  refine OpRes.pure s (u := .iface ty (ρ X)) ?_ (.ifc _ _ _ (hρ _ _ hx))
  simp only [Go.execOp, ho, Go.Instr.makeInterface, Go.Sem.run_bind, Go.run_underlying hd, Go.Result.andThen_ok]
  cases d <;> first | rfl | exact absurd rfl (hn _)

theorem op_mkF {f : Nat} {first caps : Array Operand} {cs : List AOpd} (ho : o.op = .makeFunc (.func f) first caps) (s : Sim C B e h w) (hρ : OpdR e t ρ) (hf : first.isEmpty = true) (hc : opds caps.toList = some cs)
    (hev : (AOp.mkF f cs).ev t.ev h = some (v, h')) : OpRes .pure C B e h w ((Go.execOp ρ o).run P w) v h' := by
  simp only [AOp.ev] at hev
  simp at hev; obtain ⟨rfl, rfl⟩ := hev
  have h0 : first = #[] := by simpa using hf
  subst h0
  refine OpRes.pure s (u := .func (.func f) #[] (caps.map ρ)) ?_ (.fn _ _ _ (by simpa using hρ.list hc))
  simp [Go.execOp, ho, Go.Instr.makeFunc]

theorem op_mkM {ty : TypeId} (ho : o.op = .makeMap ty none) (s : Sim C B e h w) (hev : (AOp.mkM).ev t.ev h = some (v, h')) : OpRes .alloc C B e h w ((Go.execOp ρ o).run P w) v h' := by
  simp only [AOp.ev] at hev
  simp at hev; obtain ⟨rfl, rfl⟩ := hev
  refine ⟨.map (some w.heap.size), { w with heap := w.heap.push (.map #[] 0) }, .map #[] 0, _, ⟨w.heap.size, 0, 0, 0⟩, by simp [Go.execOp, ho, Go.Instr.makeMap], rfl, rfl, rfl, rfl, fun e' _ => ⟨#[], 0, push_get (w := w) rfl, .nil, .nil⟩, ?_⟩
  exact VR.m (e := e.add h.nx ⟨w.heap.size, 0, 0, 0⟩) h.nx _ (Emb.add_same _ _ _)

/-! ### Cuts and places -/
theorem bound_sound {x : V} {u : Value} {y n : Nat} {code : Go.BoundsCode} (hx : VR e x u) (h : bound x y = some n) : (Go.Instr.sliceBound u y code).run P w = .ok n w ∧ n ≤ y := by
  unfold bound at h
  split at h
  · have := hx.i_inv
    subst this
    split at h
    · rename_i hc
      simp at h; subst h
      exact ⟨by simp [Go.Instr.sliceBound, Go.asIntOf, hc], by omega⟩
    · simp at h
  · simp at h

theorem opdO_sound (hρ : OpdR e t ρ) {X : Option Operand} {x : Option AOpd} (hx : opdO X = some x) : (X = none ∧ x = none) ∨ ∃ Y y, X = some Y ∧ x = some y ∧ VR e (t.ev y) (ρ Y) := by
  cases X with
  | none => simp [opdO] at hx; exact .inl ⟨rfl, hx.symm⟩
  | some Y =>
    simp only [opdO] at hx
    obtain ⟨y, hy, rfl⟩ := Option.map_eq_some_iff.1 hx
    exact .inr ⟨Y, y, rfl, rfl, hρ _ _ hy⟩

theorem sliceBounds_sound (hρ : OpdR e t ρ) {sl : Bool} {lo hi mx : Option Operand} {lo' hi' mx' : Option AOpd} {len cap m n s : Nat} (hl : opdO lo = some lo') (hh : opdO hi = some hi') (hm : opdO mx = some mx')
    (hmh : mx'.isSome = true → hi'.isSome = true) (h1 : boundO (mx'.map t.ev) cap cap = some m) (h2 : boundO (hi'.map t.ev) m len = some n) (h3 : boundO (lo'.map t.ev) n 0 = some s) :
    (Go.Instr.sliceBounds sl len cap (lo.map ρ) (hi.map ρ) (mx.map ρ)).run P w = .ok (s, n, m) w ∧ s ≤ n ∧ (hi' = none → n = len) ∧ (hi' ≠ none → n ≤ m) ∧ m ≤ cap ∧ (mx' = none → m = cap) := by
  rcases opdO_sound hρ hm with ⟨rfl, rfl⟩ | ⟨M, m', rfl, rfl, vm⟩ <;> rcases opdO_sound hρ hh with ⟨rfl, rfl⟩ | ⟨Hi, hi', rfl, rfl, vh⟩ <;> rcases opdO_sound hρ hl with ⟨rfl, rfl⟩ | ⟨Lo, lo', rfl, rfl, vl⟩ <;>
    simp [boundO] at h1 h2 h3 hmh <;> (try subst h1) <;> (try subst h2) <;> (try subst h3)
  · simp [Go.Instr.sliceBounds]
  · obtain ⟨r3, b3⟩ := bound_sound (P := P) (w := w) (code := .sliceB) vl h3
    simp [Go.Instr.sliceBounds, r3, b3]
  · obtain ⟨r2, b2⟩ := bound_sound (P := P) (w := w) (code := if sl then .sliceAcap else .sliceAlen) vh h2
    cases sl <;> simp_all [Go.Instr.sliceBounds]
  · obtain ⟨r2, b2⟩ := bound_sound (P := P) (w := w) (code := if sl then .sliceAcap else .sliceAlen) vh h2
    obtain ⟨r3, b3⟩ := bound_sound (P := P) (w := w) (code := .sliceB) vl h3
    cases sl <;> simp_all [Go.Instr.sliceBounds]
  · obtain ⟨r1, b1⟩ := bound_sound (P := P) (w := w) (code := if sl then .slice3Acap else .slice3Alen) vm h1
    obtain ⟨r2, b2⟩ := bound_sound (P := P) (w := w) (code := .slice3B) vh h2
    cases sl <;> simp_all [Go.Instr.sliceBounds]
  · obtain ⟨r1, b1⟩ := bound_sound (P := P) (w := w) (code := if sl then .slice3Acap else .slice3Alen) vm h1
    obtain ⟨r2, b2⟩ := bound_sound (P := P) (w := w) (code := .slice3B) vh h2
    obtain ⟨r3, b3⟩ := bound_sound (P := P) (w := w) (code := .slice3C) vl h3
    cases sl <;> simp_all [Go.Instr.sliceBounds]

theorem op_sliceS {ty : TypeId} {X : Operand} {x : AOpd} {lo hi : Option Operand} {lo' hi' : Option AOpd} (ho : o.op = .slice ty X lo hi none) (s : Sim C B e h w) (hρ : OpdR e t ρ) (hx : opd X = some x) (hd : P.underlying ty = some .string)
    (hl : opdO lo = some lo') (hh : opdO hi = some hi') (hev : (AOp.sliceS x lo' hi').ev t.ev h = some (v, h')) : OpRes .pure C B e h w ((Go.execOp ρ o).run P w) v h' := by
  simp only [AOp.ev] at hev
  have vx := hρ _ _ hx
  split at hev
  · rename_i l hp
    rw [hp] at vx
    obtain ⟨n, hn, hev⟩ := Option.bind_eq_some_iff.1 hev
    obtain ⟨q, hq, hev⟩ := Option.bind_eq_some_iff.1 hev
    cases hev
    obtain ⟨b', hb', hbl⟩ := vx.s_inv
    have hsz : b'.size = l.length := by rw [← hbl]; exact Array.length_toList.symm
    obtain ⟨hrun, hle, h1, h2, _⟩ := sliceBounds_sound (P := P) (w := w) (sl := false) (mx := none) (mx' := none) (len := l.length) (cap := l.length) (m := l.length) hρ hl hh rfl (by simp) rfl hn hq
    simp only [Option.map_none] at hrun
    refine OpRes.pure s (u := .string (b'.extract q n)) ?_ ?_
    · simp [Go.execOp, ho, hb', Go.Instr.sliceAt, Go.Instr.slice, Go.run_underlying hd, hsz, hrun]
    · have := VR.s (e := e) (b'.extract q n)
      have e1 : (b'.extract q n).data.toList = (l.take n).drop q := by
        rw [← hbl]
        simp [ByteArray.data_extract, List.drop_take]
      rw [e1] at this
      exact this
  · simp at hev

theorem op_sliceL {ty el : TypeId} {k : Nat} {X : Operand} {x : AOpd} {lo hi mx : Option Operand} {lo' hi' mx' : Option AOpd} (ho : o.op = .slice ty X lo hi mx) (s : Sim C B e h w) (hρ : OpdR e t ρ) (hx : opd X = some x) (hd : P.underlying ty = some (.slice el))
    (hk : szOf P el = some k) (hl : opdO lo = some lo') (hh : opdO hi = some hi') (hm : opdO mx = some mx') (hmh : mx'.isSome = true → hi'.isSome = true) (hev : (AOp.sliceL k x lo' hi' mx').ev t.ev h = some (v, h')) : OpRes .read C B e h w ((Go.execOp ρ o).run P w) v h' := by
  simp only [AOp.ev] at hev
  have vx := hρ _ _ hx
  split at hev
  · rename_i a len cap ex hp
    rw [hp] at vx
    obtain ⟨m, hm1, hev⟩ := Option.bind_eq_some_iff.1 hev
    obtain ⟨n, hn, hev⟩ := Option.bind_eq_some_iff.1 hev
    obtain ⟨q, hq, hev⟩ := Option.bind_eq_some_iff.1 hev
    -- the model's own bounds: its capacity may be greater
    have hrun : ∀ c, cap ≤ c → len ≤ cap → ∃ M, (Go.Instr.sliceBounds true len c (lo.map ρ) (hi.map ρ) (mx.map ρ)).run P w = .ok (q, n, M) w ∧ q ≤ n ∧ n ≤ m ∧ m ≤ M ∧ M ≤ c ∧ (mx' = none → M = c) ∧ (mx' ≠ none → M = m) := by
      intro c hc hlc
      cases hmx : mx' with
      | none =>
        subst hmx
        simp [boundO] at hm1; subst hm1
        have hn2 : boundO (hi'.map t.ev) c len = some n := by
          cases hi' with
          | none => exact hn
          | some y =>
            simp only [Option.map_some, boundO, bound] at hn ⊢
            split at hn
            · rename_i hyy
              split at hn
              · rename_i hcc; simp at hn; subst hn
                rw [if_pos ⟨hcc.1, by omega⟩]
              · simp at hn
            · simp at hn
        obtain ⟨r1, r2, r3, r4, r5, r6⟩ := sliceBounds_sound (P := P) (w := w) (sl := true) (len := len) (cap := c) (m := c) hρ hl hh hm hmh rfl hn2 hq
        refine ⟨c, r1, r2, ?_, hc, Nat.le_refl _, fun _ => rfl, fun h0 => absurd rfl h0⟩
        cases hi' with
        | none => have := r3 rfl; omega
        | some y =>
          simp only [Option.map_some, boundO] at hn
          unfold bound at hn
          split at hn
          · split at hn
            · simp at hn; omega
            · simp at hn
          · simp at hn
      | some y =>
        subst hmx
        have hm2 : boundO ((some y).map t.ev) c c = some m := by
          simp only [Option.map_some, boundO, bound] at hm1 ⊢
          split at hm1
          · split at hm1
            · rename_i hcc; simp at hm1; subst hm1
              rw [if_pos ⟨hcc.1, by omega⟩]
            · simp at hm1
          · simp at hm1
        obtain ⟨r1, r2, r3, r4, r5, r6⟩ := sliceBounds_sound (P := P) (w := w) (sl := true) (len := len) (cap := c) (m := m) hρ hl hh hm hmh hm2 hn hq
        have hne : hi' ≠ none := by
          intro h0; subst h0; simp at hmh
        exact ⟨m, r1, r2, r4 hne, Nat.le_refl _, r5, fun h0 => (by cases h0), fun _ => rfl⟩
    cases a with
    | none =>
      simp at hev
      obtain ⟨rfl, rfl⟩ := hev
      have hu : ρ X = .slice none 0 0 ∧ len = 0 ∧ cap = 0 := by
        generalize ρ X = u at *
        cases vx with | sl0 => exact ⟨rfl, rfl, rfl⟩
      obtain ⟨hu, rfl, rfl⟩ := hu
      obtain ⟨M, hr, h1, h2, h3, h4, _⟩ := hrun 0 (Nat.le_refl _) (Nat.le_refl _)
      have : n = 0 ∧ q = 0 ∧ m = 0 ∧ M = 0 := by omega
      obtain ⟨rfl, rfl, rfl, rfl⟩ := this
      refine OpRes.read s (u := .slice none 0 0) ?_ (.sl0 _)
      simp [Go.execOp, ho, hu, Go.Instr.sliceAt, Go.Instr.slice, Go.run_underlying hd, hr, run_sz hk]
    | some br =>
      obtain ⟨b, r⟩ := br
      simp only at hev
      split at hev
      · rename_i hkk
        simp at hev
        obtain ⟨rfl, rfl⟩ := hev
        generalize hX : ρ X = u at *
        cases vx with
        | sl _ _ _ _ c _ l A hl' h1 h2 h3 h4 =>
          obtain ⟨M, hr, g1, g2, g3, g4, g5, g6⟩ := hrun c h2 h1
          refine OpRes.read s (u := .slice (some (if M = q then A else A.add (q * k))) (n - q) (M - q)) ?_ ?_
          · simp only [Go.execOp, ho, Go.Instr.sliceAt, Go.Instr.slice, Go.Sem.run_bind, Go.run_underlying hd, Go.Result.andThen_ok, hX, hr, run_sz hk, Go.Sem.run_pure]
            by_cases hMq : M = q <;> simp [hMq]
          · refine .sl b (r + q) (n - q) (m - q) (M - q) _ l _ hl' (by omega) (by omega) (fun hx => ?_) (fun hne => ?_)
            · cases hmx : mx' with
              | none =>
                subst hmx
                simp at hx
                have := h3 hx
                have := g5 rfl
                simp [boundO] at hm1
                omega
              | some y => have := g6 (by simp [hmx]); omega
            · have hMq : M ≠ q := by omega
              have hc0 : c ≠ 0 := by omega
              obtain ⟨hA, htop⟩ := h4 hc0
              rw [if_neg hMq]
              refine ⟨?_, by omega⟩
              rw [hA, add_mk]
              rcases hkk with rfl | hkk
              · simp
              · have hlk : l.k = k := by
                  unfold H.kOf at hkk
                  split at hkk
                  · rename_i hb
                    obtain ⟨l2, hl2, hB, _⟩ := s.blk b _ hb
                    rw [hl'] at hl2; cases hl2
                    simp at hkk; rw [← hkk]; exact hB.1.1
                  · rename_i hb
                    obtain ⟨l2, hl2, hB, _⟩ := s.blk b _ hb
                    rw [hl'] at hl2; cases hl2
                    simp at hkk; rw [← hkk]; exact hB.1.1
                  · simp at hkk
                rw [hlk, Nat.add_mul, Nat.add_assoc]
      · simp at hev
  · simp at hev

theorem op_fa {ty : TypeId} {X : Operand} {x : AOpd} {i n : Nat} {fs : Array Go.Field} {f : Go.Field} (ho : o.op = .fieldAddr ty X i) (s : Sim C B e h w) (hρ : OpdR e t ρ) (hx : opd X = some x) (hd : P.underlying ty = some (.struct fs))
    (hf : fs[i]? = some f) (hn : szOf P f.type = some n) (h0 : n ≠ 0) (hev : (AOp.fa f.offset x).ev t.ev h = some (v, h')) : OpRes .pure C B e h w ((Go.execOp ρ o).run P w) v h' := by
  simp only [AOp.ev] at hev
  have vx := hρ _ _ hx
  split at hev
  · rename_i b r g hp
    rw [hp] at vx; simp at hev; obtain ⟨rfl, rfl⟩ := hev
    obtain ⟨l, hl, hu⟩ := vx.p_inv
    refine OpRes.pure s (u := .pointer (some ⟨l.cb, l.sh + r * l.k + (g + f.offset), none⟩)) ?_ (.p b r _ l hl)
    simp [Go.execOp, ho, hu, Go.Instr.fieldAt, Go.run_underlying hd, hf, Go.Instr.sureAddr, Go.fieldPlace, run_sz hn, h0, add_mk, Nat.add_assoc]
  · simp at hev

theorem part_sound {ty : TypeId} {n off : Nat} {g : Bool} {cs : List V} {us : Array Value} (hc : VRL e cs us.toList) (hz : szOf P ty = some n) (hg : aggT P ty = some g) (hgn : g = true ∨ n = 1) (hle : off + n ≤ cs.length)
    (ha : aggOf g ((cs.drop off).take n) = some v) : ∃ u, (Go.part ty us off).run P w = .ok u w ∧ VR e v u := by
  have hv := (hc.drop off).take n
  rcases aggOf_sound hv ha with ⟨rfl, hr⟩ | ⟨rfl, u, hu, hr⟩
  · refine ⟨_, ?_, hr⟩
    simp only [Go.part, Go.Sem.run_bind, run_agg hg, Go.Result.andThen_ok, if_true, run_sz hz, Go.Sem.run_pure]
    congr 2
    apply Array.toList_inj.1
    simp [List.extract_eq_take_drop]
  · refine ⟨u, ?_, hr⟩
    rcases hgn with h0 | h1
    · simp at h0
    · subst h1
      have hu2 : us[off]? = some u := by
        have : ((us.toList.drop off).take 1)[0]? = some u := by rw [hu]; rfl
        rw [List.getElem?_take_of_lt (by omega), List.getElem?_drop] at this
        simpa using this
      simp [Go.part, run_agg hg, hu2]

theorem op_fld {ty : TypeId} {X : Operand} {x : AOpd} {i n : Nat} {g : Bool} {fs : Array Go.Field} {f : Go.Field} (ho : o.op = .field ty X i) (s : Sim C B e h w) (hρ : OpdR e t ρ) (hx : opd X = some x) (hd : P.underlying ty = some (.struct fs))
    (hf : fs[i]? = some f) (hn : szOf P f.type = some n) (hg : aggT P f.type = some g) (hgn : g = true ∨ n = 1) (hev : (AOp.fld f.offset n g x).ev t.ev h = some (v, h')) : OpRes .pure C B e h w ((Go.execOp ρ o).run P w) v h' := by
  simp only [AOp.ev] at hev
  have vx := hρ _ _ hx
  split at hev
  · rename_i cs hp
    rw [hp] at vx
    split at hev
    · rename_i hle
      obtain ⟨v', hv', hev⟩ := Option.bind_eq_some_iff.1 hev
      cases hev
      obtain ⟨us, hu, hc⟩ := vx.agg_inv
      obtain ⟨u, hrun, hr⟩ := part_sound (P := P) (w := w) hc hn hg hgn hle hv'
      exact OpRes.pure s (u := u) (by simp [Go.execOp, ho, hu, Go.Instr.field, Go.run_underlying hd, hf, Go.asAgg, hrun]) hr
    · simp at hev
  · simp at hev

theorem op_ia {ty el : TypeId} {k : Nat} {X I : Operand} {x i : AOpd} (ho : o.op = .indexAddr ty X I) (s : Sim C B e h w) (hρ : OpdR e t ρ) (hx : opd X = some x) (hi : opd I = some i) (hd : P.underlying ty = some (.slice el)) (hk : szOf P el = some k)
    (hev : (AOp.ia k x i).ev t.ev h = some (v, h')) : OpRes .read C B e h w ((Go.execOp ρ o).run P w) v h' := by
  simp only [AOp.ev] at hev
  have vx := hρ _ _ hx
  have vi := hρ _ _ hi
  split at hev
  · rename_i b r len cap ex k' n hp hq
    rw [hp] at vx; rw [hq] at vi
    split at hev
    · rename_i hc
      obtain ⟨h0, hlt, hkk⟩ := hc
      simp at hev; obtain ⟨rfl, rfl⟩ := hev
      have hi2 := vi.i_inv
      generalize hX : ρ X = u at *
      have vx' := vx
      cases vx with
      | sl _ _ _ _ c _ l A hl h1 h2 h3 h4 =>
        obtain ⟨hA, _⟩ := h4 (by omega)
        have hlk : l.k = k := by
          unfold H.kOf at hkk
          split at hkk
          · rename_i hb
            obtain ⟨l2, hl2, hB, _⟩ := s.blk b _ hb
            rw [hl] at hl2; cases hl2
            simp at hkk; rw [← hkk]; exact hB.1.1
          · rename_i hb
            obtain ⟨l2, hl2, hB, _⟩ := s.blk b _ hb
            rw [hl] at hl2; cases hl2
            simp at hkk; rw [← hkk]; exact hB.1.1
          · simp at hkk
        refine OpRes.read s (u := .pointer (some ⟨l.cb, l.sh + (r + n.toNat) * l.k + 0, none⟩)) ?_ (.p b _ 0 l hl)
        simp [Go.execOp, ho, hX, hi2, Go.Instr.indexAt, Go.asIntOf, Go.run_underlying hd, h0, hlt, run_sz hk, hA, add_mk, hlk, Nat.add_mul, Nat.add_assoc]
    · simp at hev
  · simp at hev

theorem op_iaA {ty el : TypeId} {len k : Nat} {X I : Operand} {x i : AOpd} (ho : o.op = .indexAddr ty X I) (s : Sim C B e h w) (hρ : OpdR e t ρ) (hx : opd X = some x) (hi : opd I = some i) (hd : P.underlying ty = some (.array len el)) (hk : szOf P el = some k)
    (hev : (AOp.iaA len k x i).ev t.ev h = some (v, h')) : OpRes .pure C B e h w ((Go.execOp ρ o).run P w) v h' := by
  simp only [AOp.ev] at hev
  have vx := hρ _ _ hx
  have vi := hρ _ _ hi
  split at hev
  · rename_i b r g k' n hp hq
    rw [hp] at vx; rw [hq] at vi
    split at hev
    · rename_i hc
      obtain ⟨h0, hlt⟩ := hc
      simp at hev; obtain ⟨rfl, rfl⟩ := hev
      have hi2 := vi.i_inv
      obtain ⟨l, hl, hu⟩ := vx.p_inv
      refine OpRes.pure s (u := .pointer (some ⟨l.cb, l.sh + r * l.k + (g + n.toNat * k), none⟩)) ?_ (.p b r _ l hl)
      simp [Go.execOp, ho, hu, hi2, Go.Instr.indexAt, Go.Instr.sureAddr, Go.asIntOf, Go.run_underlying hd, h0, hlt, run_sz hk, add_mk, Nat.add_assoc]
    · simp at hev
  · simp at hev

theorem op_ixS {ty : TypeId} {X I : Operand} {x i : AOpd} (ho : o.op = .index ty X I) (s : Sim C B e h w) (hρ : OpdR e t ρ) (hx : opd X = some x) (hi : opd I = some i) (hd : P.underlying ty = some .string)
    (hev : (AOp.ixS x i).ev t.ev h = some (v, h')) : OpRes .pure C B e h w ((Go.execOp ρ o).run P w) v h' := by
  simp only [AOp.ev] at hev
  have vx := hρ _ _ hx
  have vi := hρ _ _ hi
  split at hev
  · rename_i l k n hp hq
    rw [hp] at vx; rw [hq] at vi
    split at hev
    · rename_i h0
      obtain ⟨c, hc, hev⟩ := Option.bind_eq_some_iff.1 hev
      cases hev
      have hi2 := vi.i_inv
      obtain ⟨b', hb', hl⟩ := vx.s_inv
      have hg : b'[n.toNat]? = some c := by
        rw [← hl] at hc
        have hlt : n.toNat < b'.size := by
          have := (List.getElem?_eq_some_iff.1 hc).1
          simpa using this
        rw [getElem?_pos b' _ hlt]
        have h2 : b'.data.toList[n.toNat]? = some c := hc
        rw [List.getElem?_eq_getElem (by simpa using hlt)] at h2
        simpa [ByteArray.getElem_eq_getElem_data] using h2
      refine OpRes.pure s (u := .int .u8 c.toNat) ?_ (.i _ _)
      simp [Go.execOp, ho, hb', hi2, Go.Instr.index, Go.asIntOf, Go.run_underlying hd, h0, hg]
    · simp at hev
  · simp at hev

theorem op_ixA {ty el : TypeId} {len k : Nat} {g : Bool} {X I : Operand} {x i : AOpd} (ho : o.op = .index ty X I) (s : Sim C B e h w) (hρ : OpdR e t ρ) (hx : opd X = some x) (hi : opd I = some i) (hd : P.underlying ty = some (.array len el)) (hk : szOf P el = some k)
    (hg : aggT P el = some g) (hgn : g = true ∨ k = 1) (hev : (AOp.ixA len k g x i).ev t.ev h = some (v, h')) : OpRes .pure C B e h w ((Go.execOp ρ o).run P w) v h' := by
  simp only [AOp.ev] at hev
  have vx := hρ _ _ hx
  have vi := hρ _ _ hi
  split at hev
  · rename_i cs k' n hp hq
    rw [hp] at vx; rw [hq] at vi
    split at hev
    · rename_i hc
      obtain ⟨h0, hlt, hle⟩ := hc
      obtain ⟨v', hv', hev⟩ := Option.bind_eq_some_iff.1 hev
      cases hev
      have hi2 := vi.i_inv
      obtain ⟨us, hu, hcs⟩ := vx.agg_inv
      obtain ⟨u, hrun, hr⟩ := part_sound (P := P) (w := w) hcs hk hg hgn hle hv'
      refine OpRes.pure s (u := u) ?_ hr
      simp [Go.execOp, ho, hu, hi2, Go.Instr.index, Go.asIntOf, Go.run_underlying hd, h0, hlt, run_sz hk, hrun]
    · simp at hev
  · simp at hev

end Am
