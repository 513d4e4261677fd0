/- AmOps1: types, constants, operands; new blocks; what a slice holds; appending. -/
import Derived.Test.YtibmhhdgcbaofaaDoorAmMem
import Derived.Laws.Entries
namespace Am
set_option linter.unusedVariables false
set_option linter.unusedSimpArgs false
open Go (IntKind BinOp UnOp Value Program TypeId TypeDesc Operand Oper Code Tmp World Addr Obj Act)

variable {P : Program} {C : Cx} {B : Nat} {e e' : Emb} {h h' : H} {w w' : World}

theorem ofFlat_sound {v : Value} {x : V} (hv : ofFlat v = some x) : VR e x v := by
  unfold ofFlat at hv
  split at hv <;> simp at hv <;> subst hv <;> constructor
theorem ofFlats_sound : ∀ {vs : List Value} {xs : List V}, ofFlats vs = some xs → VRL e xs vs
  | [], xs, h => by simp [ofFlats] at h; subst h; exact .nil
  | v :: vs, xs, h => by
    unfold ofFlats at h
    obtain ⟨x, hx, h⟩ := Option.bind_eq_some_iff.1 h
    obtain ⟨ys, hy, h⟩ := Option.bind_eq_some_iff.1 h
    cases h
    exact .cons _ _ _ _ (ofFlat_sound hx) (ofFlats_sound hy)
theorem ofFlat_flat {v : Value} {x : V} (hv : ofFlat v = some x) : x.flat = true := by
  unfold ofFlat at hv
  split at hv <;> simp at hv <;> subst hv <;> rfl
theorem ofFlats_flat : ∀ {vs : List Value} {xs : List V}, ofFlats vs = some xs → xs.all V.flat = true
  | [], xs, h => by simp [ofFlats] at h; subst h; rfl
  | v :: vs, xs, h => by
    unfold ofFlats at h
    obtain ⟨x, hx, h⟩ := Option.bind_eq_some_iff.1 h
    obtain ⟨ys, hy, h⟩ := Option.bind_eq_some_iff.1 h
    cases h
    simp only [List.all_cons, ofFlat_flat hx, ofFlats_flat hy, Bool.and_self]
theorem zeroT_flat {P : Program} {t : TypeId} {z : List V} (hz : zeroT P t = some z) : z.all V.flat = true := by
  unfold zeroT at hz
  obtain ⟨v, hv, hx⟩ := Option.bind_eq_some_iff.1 hz
  exact ofFlats_flat hx
theorem ofFlat_one {v : Value} {x : V} (hv : ofFlat v = some x) : v.cells = #[v] := by
  unfold ofFlat at hv
  split at hv <;> simp_all [Value.cells]
theorem ofValue_sound {v : Value} {x : V} (hv : ofValue v = some x) : VR e x v := by
  unfold ofValue at hv
  split at hv
  · obtain ⟨xs, hx, rfl⟩ := Option.map_eq_some_iff.1 hv
    exact .agg _ _ (ofFlats_sound hx)
  · exact ofFlat_sound hv

/-- The temporaries. -/
structure TR (e : Emb) (nt : Nat) (t : Tm) (a : Act) : Prop where
  size : a.tmps.size = nt
  get : ∀ n, VR e (t.v n) (a.tmps.getD n Go.undef)

theorem VR.un : VR e V.un Go.undef := .tup _ _ .nil

theorem TR.mono {nt : Nat} {t : Tm} {a : Act} (h : TR e nt t a) (he : e.le e') : TR e' nt t a := ⟨h.size, fun n => (h.get n).mono he⟩

theorem TR.opd {nt : Nat} {t : Tm} {a : Act} (h : TR e nt t a) {gl : Nat → Option Loc} (hgl : ∀ b l, gl b = some l → e b = some l) (hg : ∀ g, g < 4096 → ∃ l, gl g = some l ∧ l.cb = g ∧ l.sh = 0) {o : Operand} {x : AOpd} (hx : opd o = some x) : VR e (t.ev x) (a.eval o) := by
  cases o with
  | tmp n => simp [Am.opd] at hx; subst hx; exact h.get n
  | const v =>
    simp only [Am.opd] at hx
    obtain ⟨y, hy, rfl⟩ := Option.map_eq_some_iff.1 hx
    exact ofValue_sound hy
  | func f => simp [Am.opd] at hx; subst hx; exact .fn f [] #[] .nil
  | global g =>
    simp only [Am.opd] at hx
    split at hx
    · rename_i hlt
      cases hx
      obtain ⟨l, h1, h2, h3⟩ := hg g hlt
      have := VR.p (e := e) g 0 0 l (hgl _ _ h1)
      rw [h2, h3, show 0 + 0 * l.k + 0 = 0 by simp] at this
      exact this
    · cases hx

/-- What is given of the operands. -/
def OpdR (e : Emb) (t : Tm) (ρ : Operand → Value) : Prop := ∀ o x, opd o = some x → VR e (t.ev x) (ρ o)

theorem OpdR.list {t : Tm} {ρ : Operand → Value} (hρ : OpdR e t ρ) : ∀ {os : List Operand} {xs : List AOpd}, opds os = some xs → VRL e (xs.map t.ev) (os.map ρ)
  | [], xs, h => by simp [opds] at h; subst h; exact .nil
  | o :: os, xs, h => by
    unfold opds at h
    obtain ⟨x, hx, h⟩ := Option.bind_eq_some_iff.1 h
    obtain ⟨ys, hy, h⟩ := Option.bind_eq_some_iff.1 h
    cases h
    exact .cons _ _ _ _ (hρ _ _ hx) (hρ.list hy)

theorem info_of_sz {t : TypeId} {n : Nat} (hn : szOf P t = some n) : ∃ i, P.info? t = some i ∧ i.size = n := by
  unfold szOf at hn
  exact Option.map_eq_some_iff.1 hn
theorem run_sz {t : TypeId} {n : Nat} (hn : szOf P t = some n) (w : World) : (Go.sizeOf t).run P w = .ok n w := by
  obtain ⟨i, hi, rfl⟩ := info_of_sz hn
  simp [Go.sizeOf, Go.typeInfo, hi]
theorem run_info {t : TypeId} {i : Go.TypeInfo} (hi : P.info? t = some i) (w : World) : (Go.typeInfo t).run P w = .ok i w := by
  simp [Go.typeInfo, hi]
theorem run_agg {t : TypeId} {g : Bool} (hg : aggT P t = some g) (w : World) : (Go.isAgg t).run P w = .ok g w := by
  unfold aggT at hg
  cases hu : P.underlying t with
  | none => rw [hu] at hg; simp at hg
  | some d =>
    rw [hu] at hg
    simp only [Go.isAgg, Go.Sem.run_bind, Go.run_underlying hu, Go.Result.andThen_ok]
    cases d <;> simp_all
theorem run_zero {t : TypeId} {z : List V} (hz : zeroT P t = some z) (w : World) : ∃ v, (Go.zeroValue t).run P w = .ok v w ∧ ∀ e, VRL e z v.cells.toList := by
  unfold zeroT at hz
  obtain ⟨v, hv, hx⟩ := Option.bind_eq_some_iff.1 hz
  obtain ⟨i, hi, hv⟩ := Option.bind_eq_some_iff.1 hv
  exact ⟨v, by simp [Go.zeroValue, Go.typeInfo, hi, hv], fun e => ofFlats_sound hx⟩
theorem run_zeroV {t : TypeId} {z : V} (hz : zeroV P t = some z) (w : World) : ∃ v, (Go.zeroValue t).run P w = .ok v w ∧ ∀ e, VR e z v := by
  unfold zeroV at hz
  obtain ⟨v, hv, hx⟩ := Option.bind_eq_some_iff.1 hz
  obtain ⟨i, hi, hv⟩ := Option.bind_eq_some_iff.1 hv
  exact ⟨v, by simp [Go.zeroValue, Go.typeInfo, hi, hv], fun e => ofValue_sound hx⟩

/-! ### New blocks -/
theorem VRR.mono {k : Nat} {rs : List (List V)} {us : List Value} (hr : VRR e k rs us) (he : e.le e') : VRR e' k rs us :=
  ⟨hr.len, fun r row hrow => ⟨(hr.row r row hrow).1, fun j v hj => let ⟨u, a, b⟩ := (hr.row r row hrow).2 j v hj; ⟨u, a, b.mono he⟩⟩⟩

theorem room_new {cs : Array Value} {el : TypeId} {fr : Nat × Nat} {cb k top : Nat} (ht : top * k ≤ cs.size) (hc : w.heap[cb]? = some (.cells cs el fr)) (hf : ∀ j, j < cs.size → ¬ (fr.1 ≤ j ∧ j < fr.2)) (hm : fr.1 = fr.2 ∨ cs.size ≤ fr.1) :
    Room w ⟨cb, 0, k, top⟩ ∧ Mild w ⟨cb, 0, k, top⟩ := by
  refine ⟨?_, cs, el, fr.1, fr.2, hc, hm⟩
  intro q hq
  have hlt : q < cs.size := Nat.lt_of_lt_of_le hq ht
  constructor
  · simp only [cellAt, World.cell?, hc, Option.isSome_none, Nat.zero_add]
    simp [hlt]
  · simp only [cold, World.frozen?, hc, Nat.zero_add]
    have := hf _ hlt
    simp only [Bool.and_eq_false_iff, decide_eq_false_iff_not]
    omega
theorem blk_rows {k : Nat} {rs : List (List V)} {us : List Value} {cs : Array Value} {el : TypeId} {fr : Nat × Nat} {cb : Nat} (hk : 0 < k) (hr : VRR e k rs us)
    (hc : w.heap[cb]? = some (.cells cs el fr)) (hus : ∀ (j : Nat) (u : Value), us[j]? = some u → cs[j]? = some u) {top : Nat} (ht : top * k ≤ cs.size) (hf : ∀ j, j < cs.size → ¬ (fr.1 ≤ j ∧ j < fr.2)) (hm : fr.1 = fr.2 ∨ cs.size ≤ fr.1 := by exact .inl rfl) : BlkR C e (.rows k rs false) ⟨cb, 0, k, top⟩ w := by
  refine ⟨⟨rfl, hk, fun _ => room_new ht hc hf hm⟩, fun r row hrow => ⟨(hr.row r row hrow).1, fun j v hj => ?_⟩⟩
  obtain ⟨u, hu, hv⟩ := (hr.row r row hrow).2 j v hj
  have hlt : r * k + j < us.length := (List.getElem?_eq_some_iff.1 hu).1
  refine ⟨u, ?_, hv, fun _ => ?_⟩
  · simp only [cellAt, World.cell?, hc, Option.isSome_none, Nat.zero_add]
    exact hus _ _ hu
  · simp only [cold, World.frozen?, hc, Nat.zero_add]
    have := hf (r * k + j) ((Array.getElem?_eq_some_iff.1 (hus _ _ hu)).1)
    simp only [Bool.and_eq_false_iff, decide_eq_false_iff_not]
    omega
theorem blk_bytes {bs : List UInt8} {cs : Array Value} {el : TypeId} {fr : Nat × Nat} {cb : Nat}
    (hc : w.heap[cb]? = some (.cells cs el fr)) (hus : ∀ (j : Nat) (c : UInt8), bs[j]? = some c → cs[j]? = some (.int .u8 c.toNat)) {top : Nat} (ht : top ≤ cs.size) (hf : ∀ j, j < cs.size → ¬ (fr.1 ≤ j ∧ j < fr.2)) (hm : fr.1 = fr.2 ∨ cs.size ≤ fr.1 := by exact .inl rfl) : BlkR C e (.bytes bs false) ⟨cb, 0, 1, top⟩ w := by
  refine ⟨⟨rfl, fun _ => room_new (by omega) hc hf hm⟩, fun r c hr => ?_⟩
  have hlt : r < bs.length := (List.getElem?_eq_some_iff.1 hr).1
  refine ⟨?_, fun _ => ?_⟩
  · simp only [cellAt, World.cell?, hc, Option.isSome_none, Nat.zero_add]
    exact hus _ _ hr
  · simp only [cold, World.frozen?, hc, Nat.zero_add]
    have := hf r ((Array.getElem?_eq_some_iff.1 (hus _ _ hr)).1)
    simp only [Bool.and_eq_false_iff, decide_eq_false_iff_not]
    omega

/-- A world whose heap has one object more. -/
theorem Stp.fresh (s : Sim C B e h w) {o : Obj} {x : Blk} {k top : Nat} (hh : w'.heap = w.heap.push o) (hx : ∀ e', e.le e' → BlkR C e' x ⟨w.heap.size, 0, k, top⟩ w') (hs : Sky w w' := by exact ⟨rfl, rfl, rfl⟩) :
    Stp C B e h w (e.add h.nx ⟨w.heap.size, 0, k, top⟩) (h.push x) w' :=
  Stp.push s x ⟨w.heap.size, 0, k, top⟩ (Nat.le_refl _) (fun c hc => by rw [hh]; simp [Array.getElem?_push, Nat.ne_of_lt hc]) (by rw [hh]; simp) (hx _ (Emb.le_add _ s.fresh)) hs
theorem push_get {o : Obj} (hh : w'.heap = w.heap.push o) : w'.heap[w.heap.size]? = some o := by rw [hh]; simp

/-! ### What a slice holds -/
theorem sl_addr {b r len cap c n : Nat} {ex : Bool} {A : Addr} {l : Loc} (hl : e b = some l) (h : VR e (.sl (some (b, r)) len cap ex) (.slice (some A) len c)) (hn : n ≤ len) (h0 : n ≠ 0) :
    A = ⟨l.cb, l.sh + r * l.k, none⟩ ∧ c ≠ 0 := by
  cases h with
  | sl _ _ _ _ _ _ l' _ h1 h2 h3 h4 h5 =>
    rw [hl] at h1; cases h1
    have hc : c ≠ 0 := by omega
    exact ⟨(h5 hc).1, hc⟩

theorem rseg_sound (s : Sim C B e h w) {k n : Nat} {a : Option (Nat × Nat)} {len cap : Nat} {ex : Bool} {u : Value} {rs : List (List V)}
    (hr : h.rseg k a n = some rs) (hv : VR e (.sl a len cap ex) u) (hn : n ≤ len) :
    rs.length = n ∧ ∃ us A c, VRR e k rs us ∧ u = .slice A len c ∧ (n = 0 ∨ ∃ cb o, A = some ⟨cb, o, none⟩ ∧ Lies w cb o us) := by
  unfold H.rseg at hr
  by_cases h0 : n = 0
  · rw [if_pos h0] at hr
    simp at hr; subst hr
    refine ⟨by simp [h0], [], ?_⟩
    have : VRR e k [] [] := ⟨by simp, fun r row hrow => by simp at hrow⟩
    cases hv with
    | sl0 => exact ⟨none, 0, this, rfl, .inl h0⟩
    | sl b r _ _ c _ l A => exact ⟨some A, c, this, rfl, .inl h0⟩
  · rw [if_neg h0] at hr
    cases a with
    | none => simp at hr
    | some br =>
      obtain ⟨b, r⟩ := br
      simp only at hr
      split at hr
      · rename_i k' all ro hb
        split at hr
        · rename_i hc
          obtain ⟨rfl, hle⟩ := hc
          simp at hr
          obtain ⟨l, hl, hB, _, _⟩ := s.blk b _ hb
          obtain ⟨⟨hk, hk0, _⟩, hrows⟩ := hB
          have hlen : rs.length = n := by rw [← hr]; simp; omega
          refine ⟨hlen, ?_⟩
          have hv' := hv
          cases hv with
          | sl _ _ _ _ c _ l' A h1 h2 h3 h4 h5 =>
            obtain ⟨hA, _⟩ := sl_addr hl hv' hn h0
            have hget : ∀ (q : Nat) (row : List V), rs[q]? = some row → all[r + q]? = some row := fun q row hq => by
              rw [← hr, List.getElem?_take] at hq
              split at hq
              · rw [List.getElem?_drop] at hq; exact hq
              · simp at hq
            have hcell : ∀ q, q < n * k' → ∃ u, cellAt w l.cb (l.sh + r * k' + q) = some u := fun q hq => by
              have hqk : q / k' < n := (Nat.div_lt_iff_lt_mul hk0).2 hq
              have hq2 : q / k' < rs.length := by omega
              obtain ⟨hlen2, hcs⟩ := hrows (r + q / k') _ (hget _ _ (List.getElem?_eq_getElem hq2))
              have hm : q % k' < (rs[q / k']).length := by rw [hlen2]; exact Nat.mod_lt _ hk0
              obtain ⟨u, hu, _⟩ := hcs _ _ (List.getElem?_eq_getElem hm)
              refine ⟨u, ?_⟩
              have : l.sh + (r + q / k') * k' + q % k' = l.sh + r * k' + q := by
                rw [Nat.add_mul, Nat.add_assoc, Nat.add_assoc, Nat.div_add_mod']; omega
              rw [this] at hu; exact hu
            refine ⟨(List.range (n * k')).map fun q => (cellAt w l.cb (l.sh + r * k' + q)).getD Go.undef, some A, c, ⟨by simp [hlen], fun q row hq => ?_⟩, rfl, .inr ⟨l.cb, l.sh + r * k', by rw [hA, hk], fun q u hq => ?_⟩⟩
            · obtain ⟨hlen2, hcs⟩ := hrows (r + q) row (hget _ _ hq)
              refine ⟨hlen2, fun j v hj => ?_⟩
              obtain ⟨u, hu, hvr, _⟩ := hcs j v hj
              have hjk : j < k' := by rw [← hlen2]; exact (List.getElem?_eq_some_iff.1 hj).1
              have hqn : q < n := by rw [← hlen]; exact (List.getElem?_eq_some_iff.1 hq).1
              have hlt : q * k' + j < n * k' := by
                have : (q + 1) * k' ≤ n * k' := Nat.mul_le_mul_right k' hqn
                rw [Nat.add_mul] at this; omega
              refine ⟨u, ?_, hvr⟩
              rw [List.getElem?_map, List.getElem?_range hlt]
              have : l.sh + r * k' + (q * k' + j) = l.sh + (r + q) * k' + j := by rw [Nat.add_mul]; omega
              simp only [Option.map_some]
              rw [this, hu]; rfl
            · by_cases hq2 : q < n * k'
              · rw [List.getElem?_map, List.getElem?_range hq2] at hq
                obtain ⟨u', hu'⟩ := hcell q hq2
                simp only [Option.map_some] at hq
                rw [hu'] at hq
                cases hq
                exact hu'
              · rw [List.getElem?_eq_none (by simp; omega)] at hq; simp at hq
        · simp at hr
      · simp at hr

theorem bseg_sound (s : Sim C B e h w) {n : Nat} {a : Option (Nat × Nat)} {len cap : Nat} {ex : Bool} {u : Value} {bs : List UInt8}
    (hr : h.bseg a n = some bs) (hv : VR e (.sl a len cap ex) u) (hn : n ≤ len) :
    bs.length = n ∧ ∃ A c, u = .slice A len c ∧ (n = 0 ∨ ∃ cb o, A = some ⟨cb, o, none⟩ ∧ Lies w cb o (bs.map fun (c : UInt8) => Value.int .u8 c.toNat)) := by
  unfold H.bseg at hr
  by_cases h0 : n = 0
  · rw [if_pos h0] at hr
    simp at hr; subst hr
    refine ⟨by simp [h0], ?_⟩
    cases hv with
    | sl0 => exact ⟨none, 0, rfl, .inl h0⟩
    | sl b r _ _ c _ l A => exact ⟨some A, c, rfl, .inl h0⟩
  · rw [if_neg h0] at hr
    cases a with
    | none => simp at hr
    | some br =>
      obtain ⟨b, r⟩ := br
      simp only at hr
      split at hr
      · rename_i all ro hb
        split at hr
        · rename_i hle
          simp at hr
          obtain ⟨l, hl, hB, _, _⟩ := s.blk b _ hb
          obtain ⟨⟨hk, _⟩, hbs⟩ := hB
          have hlen : bs.length = n := by rw [← hr]; simp; omega
          refine ⟨hlen, ?_⟩
          have hv' := hv
          cases hv with
          | sl _ _ _ _ c _ l' A h1 h2 h3 h4 h5 =>
            obtain ⟨hA, _⟩ := sl_addr hl hv' hn h0
            refine ⟨some A, c, rfl, .inr ⟨l.cb, l.sh + r, by rw [hA, hk, Nat.mul_one], fun q u hq => ?_⟩⟩
            rw [List.getElem?_map] at hq
            obtain ⟨x, hx, rfl⟩ := Option.map_eq_some_iff.1 hq
            rw [← hr, List.getElem?_take] at hx
            split at hx
            · rw [List.getElem?_drop] at hx
              have := (hbs (r + q) x hx).1
              rw [Nat.add_assoc]; exact this
            · simp at hx
        · simp at hr
      · simp at hr

/-- The cells of the first n elements, as the model reads them. -/
theorem first_rows {k len c : Nat} {A : Option Addr} {us : List Value} (n : Nat) (hk : us.length = n * k) (hl : n = 0 ∨ ∃ cb o, A = some ⟨cb, o, none⟩ ∧ Lies w cb o us) :
    (Go.Builtin.firstCells k n (.slice A len c)).run P w = .ok us.toArray w := by
  rcases hl with h0 | ⟨cb, o, rfl, hl⟩
  · subst h0
    have : us = [] := by simpa using hk
    subst this
    cases A with
    | none => rfl
    | some a => simp [Go.Builtin.firstCells, Go.loadCells, Go.loadCellsFrom]
  · simp only [Go.Builtin.firstCells]
    rw [← hk]; exact hl.load

theorem VRR.cells {k : Nat} {rs : List (List V)} {us : List Value} (hus : VRR e k rs us) : ∀ u ∈ us, u.oneCell' = true := by
  intro u hu
  obtain ⟨q, hq⟩ := List.mem_iff_getElem?.1 hu
  have hql : q < us.length := (List.getElem?_eq_some_iff.1 hq).1
  have hk0 : 0 < k := by
    rcases Nat.eq_zero_or_pos k with h0 | h0
    · rw [hus.len, h0] at hql; simp at hql
    · exact h0
  have hqr : q / k < rs.length := by
    rw [hus.len] at hql
    exact (Nat.div_lt_iff_lt_mul hk0).2 hql
  obtain ⟨hlen, hcs⟩ := hus.row (q / k) _ (List.getElem?_eq_getElem hqr)
  have hm : q % k < (rs[q / k]).length := by rw [hlen]; exact Nat.mod_lt _ hk0
  obtain ⟨u', h1, h2⟩ := hcs _ _ (List.getElem?_eq_getElem hm)
  rw [Nat.div_add_mod'] at h1
  rw [hq] at h1; cases h1
  exact h2.one

/-- Rows written into a slice's array from a place on. -/
theorem rput_sound (s : Sim C B e h w) {k at_ : Nat} {a : Option (Nat × Nat)} {len cap : Nat} {ex : Bool} {u : Value} {rs : List (List V)} {us : List Value}
    (hr : h.rput k a at_ rs = some h') (hv : VR e (.sl a len cap ex) u) (hus : VRR e k rs us) (hcap : at_ + rs.length ≤ cap) :
    ∃ A c w', u = .slice A len c ∧ (match A with | some a => (Go.storeCells (a.add (at_ * k)) us).run P w | none => .ok () w) = .ok () w' ∧ Stp C B e h w e h' w' := by
  unfold H.rput at hr
  have h1 := hus.cells
  by_cases h0 : rs = []
  · rw [if_pos h0] at hr
    simp at hr; subst hr
    subst h0
    have : us = [] := by have := hus.len; simpa using this
    subst this
    cases hv with
    | sl0 => exact ⟨none, 0, w, rfl, rfl, Stp.refl s⟩
    | sl b r _ _ c _ l A => exact ⟨some A, c, w, rfl, rfl, Stp.refl s⟩
  · rw [if_neg h0] at hr
    cases a with
    | none => simp at hr
    | some br =>
      obtain ⟨b, r⟩ := br
      simp only at hr
      split at hr
      · rename_i k' all hb
        split at hr
        · rename_i hc
          obtain ⟨rfl, hle⟩ := hc
          simp at hr; subst hr
          obtain ⟨l, hl, hB, _, _⟩ := s.blk b _ hb
          obtain ⟨hfree, hB'⟩ := rows_put (i := r + at_) (new := rs) hB hus (by omega)
          have hk := hB.1.1
          cases hv with
          | sl _ _ _ _ c _ l' A h1' h2 h3 h4 h5 =>
            rw [hl] at h1'; cases h1'
            have hpos : 0 < rs.length := List.length_pos_iff.2 h0
            have hA := (h5 (by omega)).1
            have hadd : A.add (at_ * k') = ⟨l.cb, l.sh + (r + at_) * k', none⟩ := by
              rw [hA, add_mk, hk]
              rw [Nat.add_mul, Nat.add_assoc]
            refine ⟨some A, c, _, rfl, ?_, Stp.cells s hb rfl hl _ _ hB'⟩
            simp only [hadd]
            exact hfree.store h1
        · simp at hr
      · simp at hr

theorem bput_sound (s : Sim C B e h w) {at_ : Nat} {a : Option (Nat × Nat)} {len cap : Nat} {ex : Bool} {u : Value} {bs : List UInt8}
    (hr : h.bput a at_ bs = some h') (hv : VR e (.sl a len cap ex) u) (hcap : at_ + bs.length ≤ cap) :
    ∃ A c w', u = .slice A len c ∧ (match A with | some a => (Go.storeCells (a.add at_) (bs.map fun (c : UInt8) => Value.int .u8 c.toNat)).run P w | none => .ok () w) = .ok () w' ∧ Stp C B e h w e h' w' := by
  unfold H.bput at hr
  by_cases h0 : bs = []
  · rw [if_pos h0] at hr
    simp at hr; subst hr
    subst h0
    cases hv with
    | sl0 => exact ⟨none, 0, w, rfl, rfl, Stp.refl s⟩
    | sl b r _ _ c _ l A => exact ⟨some A, c, w, rfl, rfl, Stp.refl s⟩
  · rw [if_neg h0] at hr
    cases a with
    | none => simp at hr
    | some br =>
      obtain ⟨b, r⟩ := br
      simp only at hr
      split at hr
      · rename_i all hb
        split at hr
        · rename_i hle
          simp at hr; subst hr
          obtain ⟨l, hl, hB, _, _⟩ := s.blk b _ hb
          obtain ⟨hfree, hB'⟩ := bytes_put (i := r + at_) (new := bs) hB rfl (by omega)
          have hk := hB.1.1
          cases hv with
          | sl _ _ _ _ c _ l' A h1' h2 h3 h4 h5 =>
            rw [hl] at h1'; cases h1'
            have hpos : 0 < bs.length := List.length_pos_iff.2 h0
            have hA := (h5 (by omega)).1
            have hadd : A.add at_ = ⟨l.cb, l.sh + (r + at_), none⟩ := by
              rw [hA, add_mk, hk, Nat.mul_one, Nat.add_assoc]
            refine ⟨some A, c, _, rfl, ?_, Stp.cells s hb rfl hl _ _ hB'⟩
            simp only [hadd]
            exact hfree.store (by simp [Go.Value.oneCell'])
        · simp at hr
      · simp at hr

end Am
