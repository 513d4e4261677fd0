/- AmMem: reading and writing: the abstract machine's primitives against the model's. -/
import Derived.Test.YtibmhhdgcbaofaaDoorAmRel
import Derived.Laws.Cells
import Derived.Laws.IdiomCopy
namespace Am
set_option linter.unusedVariables false
set_option linter.unusedSimpArgs false
open Go (IntKind BinOp UnOp Value Program TypeId TypeDesc Operand Oper Code Tmp World Addr Obj)

variable {P : Program} {C : Cx} {B : Nat} {e e' : Emb} {h h' : H} {w w' : World}

theorem add_mk (cb o j : Nat) : (⟨cb, o, none⟩ : Addr).add j = ⟨cb, o + j, none⟩ := by unfold Addr.add; split <;> simp_all

theorem V.flat_one {v : V} {u : Value} (hv : VR e v u) (hf : v.flat = true) : u.oneCell' = true := by
  cases hv <;> simp_all [V.flat, Go.Value.oneCell']

/-- Cells that lie one behind the other. -/
def Lies (w : World) (cb o : Nat) (us : List Value) : Prop := ∀ (j : Nat) (u : Value), us[j]? = some u → w.cell? ⟨cb, o + j, none⟩ = some u
def Free (w : World) (cb o n : Nat) : Prop := ∀ j, j < n → (w.cell? ⟨cb, o + j, none⟩).isSome = true ∧ w.frozen? ⟨cb, o + j, none⟩ = false

theorem Lies.load {cb o : Nat} {us : List Value} (hl : Lies w cb o us) : (Go.loadCells ⟨cb, o, none⟩ us.length).run P w = .ok us.toArray w :=
  Go.run_loadCells_list w _ us fun j v hj => by rw [add_mk]; exact hl j v hj

theorem row_sound (s : Sim C B e h w) {b r : Nat} {row : List V} {l : Loc} (hl : e b = some l) (hr : h.row b r = some row) :
    row.length = l.k ∧ ∃ us, VRL e row us ∧ Lies w l.cb (l.sh + r * l.k) us := by
  unfold H.row at hr
  split at hr
  · rename_i k rs ro hb
    obtain ⟨l', hl', hB, _, _⟩ := s.blk b _ hb
    rw [hl] at hl'; cases hl'
    obtain ⟨⟨hk, _, _⟩, hrows⟩ := hB
    obtain ⟨hlen, hcells⟩ := hrows r row hr
    refine ⟨by rw [hlen, hk], ?_⟩
    have hsome : ∀ j, j < row.length → ∃ u, cellAt w l.cb (l.sh + r * k + j) = some u := fun j hj => by
      obtain ⟨u, hu, _⟩ := hcells j row[j] (List.getElem?_eq_getElem hj)
      exact ⟨u, hu⟩
    refine ⟨(List.range row.length).map fun j => (cellAt w l.cb (l.sh + r * k + j)).getD Go.undef, VRL.of_get (by simp) fun j v u hv hu => ?_, fun j u hu => ?_⟩
    · obtain ⟨u', hu', hr', _⟩ := hcells j v hv
      have hj : j < row.length := (List.getElem?_eq_some_iff.1 hv).1
      simp [hj] at hu
      rw [hu'] at hu
      simp at hu
      rw [← hu]; exact hr'.1
    · by_cases hj : j < row.length
      · simp [hj] at hu
        obtain ⟨u', hu'⟩ := hsome j hj
        rw [hu'] at hu
        simp at hu
        subst hu
        rw [hk]
        exact hu'
      · simp [hj] at hu
  · rename_i bs ro hb
    obtain ⟨l', hl', hB, _, _⟩ := s.blk b _ hb
    rw [hl] at hl'; cases hl'
    obtain ⟨⟨hk, _⟩, hbs⟩ := hB
    cases hc : bs[r]? with
    | none => rw [hc] at hr; simp at hr
    | some c =>
      rw [hc] at hr; simp at hr; subst hr
      refine ⟨by rw [hk]; rfl, [.int .u8 c.toNat], .cons _ _ _ _ (.i _ _) .nil, fun j u hj => ?_⟩
      cases j with
      | zero => simp at hj; subst hj; rw [hk, Nat.mul_one]; exact (hbs r c hc).1
      | succ j => simp at hj
  · simp at hr

theorem rd_sound (s : Sim C B e h w) {b r f n : Nat} {vs : List V} {l : Loc} (hl : e b = some l) (hr : h.rd b r f n = some vs) :
    ∃ us, us.length = n ∧ VRL e vs us ∧ Lies w l.cb (l.sh + r * l.k + f) us := by
  unfold H.rd at hr
  cases hrow : h.row b r with
  | none => rw [hrow] at hr; simp at hr
  | some row =>
    rw [hrow] at hr
    simp only [Option.bind_some] at hr
    split at hr
    · rename_i hle
      simp at hr
      obtain ⟨_, us, hus, hlies⟩ := row_sound s hl hrow
      have hlen := hus.length
      refine ⟨(us.drop f).take n, by simp; omega, by rw [← hr]; exact (hus.drop f).take n, fun j u hj => ?_⟩
      by_cases hjn : j < n
      · rw [List.getElem?_take_of_lt hjn, List.getElem?_drop] at hj
        have := hlies (f + j) u hj
        rw [Nat.add_assoc]; exact this
      · rw [List.getElem?_take, if_neg hjn] at hj; simp at hj
    · simp at hr

/-! ### Writing -/
theorem setCells_heap (cb : Nat) : ∀ (us : List Value) (o : Nat) (w : World) (c : Nat), c ≠ cb → (w.setCells cb o us).heap[c]? = w.heap[c]?
  | [], _, _, _, _ => rfl
  | u :: us, o, w, c, hc => by
    rw [World.setCells, setCells_heap cb us _ _ c hc]
    simp only [World.setCell, Array.getElem?_modify]
    rw [if_neg (fun hh => hc hh.symm)]
theorem setCells_size (cb : Nat) : ∀ (us : List Value) (o : Nat) (w : World), (w.setCells cb o us).heap.size = w.heap.size
  | [], _, _ => rfl
  | u :: us, o, w => by
    rw [World.setCells, setCells_size cb us]
    simp [World.setCell]
theorem setCells_sky (cb : Nat) : ∀ (us : List Value) (o : Nat) (w : World), Sky w (w.setCells cb o us)
  | [], _, _ => ⟨rfl, rfl, rfl⟩
  | u :: us, o, w => by
    rw [World.setCells]
    exact Sky.trans (b := w.setCell ⟨cb, o, none⟩ u) ⟨rfl, rfl, rfl⟩ (setCells_sky cb us _ _)
theorem Free.store {cb o : Nat} {us : List Value} (hf : Free w cb o us.length) (h1 : ∀ u ∈ us, u.oneCell' = true) : (Go.storeCells ⟨cb, o, none⟩ us).run P w = .ok () (w.setCells cb o us) :=
  Go.run_storeCells_cells cb o us 0 w (fun j hj => (hf j hj).1) (fun j hj => (hf j hj).2) h1

theorem cell_in {cb o : Nat} {us : List Value} (hf : Free w cb o us.length) (j : Nat) (u : Value) (hj : us[j]? = some u) : cellAt (w.setCells cb o us) cb (o + j) = some u := by
  obtain ⟨hlt, rfl⟩ := List.getElem?_eq_some_iff.1 hj
  exact World.cell?_setCells_in cb us o w (fun j hj => (hf j hj).1) j hlt
theorem cell_out {cb o : Nat} {us : List Value} (q : Nat) (hq : q < o ∨ o + us.length ≤ q) : cellAt (w.setCells cb o us) cb q = cellAt w cb q :=
  World.cell?_setCells_out cb us o w ⟨cb, q, none⟩ fun _ _ => hq
theorem cold_set {cb o : Nat} {us : List Value} (q : Nat) (hq : cold w cb q) : cold (w.setCells cb o us) cb q := by
  unfold cold at *
  rw [World.frozen?_setCells]; exact hq

theorem setCells_some (cb : Nat) : ∀ (us : List Value) (o : Nat) (w : World) (a : Addr), (w.cell? a).isSome = true → ((w.setCells cb o us).cell? a).isSome = true
  | [], _, _, _, h => h
  | u :: us, o, w, a, h => by
    rw [World.setCells]
    refine setCells_some cb us _ _ _ ?_
    by_cases ha : (⟨cb, o, none⟩ : Addr) = a
    · obtain ⟨v, hv⟩ := Option.isSome_iff_exists.1 h
      subst ha
      rw [World.cell?_setCell_same _ _ _ hv]; rfl
    · rw [World.cell?_setCell_other _ _ _ _ ha]; exact h
theorem mild_one {l : Loc} {a : Addr} {u : Value} (hr : Mild w l) : Mild (w.setCell a u) l := by
  obtain ⟨cs, el, lo, hi, h1, h2⟩ := hr
  unfold Mild World.setCell
  simp only [Array.getElem?_modify]
  by_cases ha : a.block = l.cb
  · rw [if_pos ha, h1]
    refine ⟨_, el, lo, hi, rfl, ?_⟩
    split
    · exact h2
    · simpa using h2
  · rw [if_neg ha]; exact ⟨cs, el, lo, hi, h1, h2⟩
theorem mild_set {l : Loc} (cb : Nat) : ∀ (us : List Value) (o : Nat) (w : World), Mild w l → Mild (w.setCells cb o us) l
  | [], _, _, h => h
  | u :: us, o, w, h => by rw [World.setCells]; exact mild_set cb us _ _ (mild_one h)
theorem room_set {l : Loc} {cb o : Nat} {us : List Value} (hr : Room w l ∧ Mild w l) : Room (w.setCells cb o us) l ∧ Mild (w.setCells cb o us) l := ⟨fun q hq =>
  ⟨setCells_some _ _ _ _ _ (hr.1 q hq).1, by unfold cold; rw [World.frozen?_setCells]; exact (hr.1 q hq).2⟩, mild_set _ _ _ _ hr.2⟩

/-- Rows of k cells as one list of cells. -/
structure VRR (e : Emb) (k : Nat) (rs : List (List V)) (us : List Value) : Prop where
  len : us.length = rs.length * k
  row : ∀ (r : Nat) (row : List V), rs[r]? = some row → row.length = k ∧ ∀ (j : Nat) (v : V), row[j]? = some v → ∃ u, us[r * k + j]? = some u ∧ CR e v u

theorem VRR.one {k : Nat} {row : List V} {us : List Value} (h : VRL e row us) (hk : row.length = k) (hf : row.all V.flat = true) : VRR e k [row] us := by
  refine ⟨by rw [← h.length, hk]; simp, fun r row' hr => ?_⟩
  cases r with
  | zero => simp at hr; subst hr; exact ⟨hk, fun j v hj => by
      obtain ⟨u, h1, h2⟩ := h.get j v hj
      exact ⟨u, by simpa using h1, h2, List.all_eq_true.1 hf _ (List.mem_of_getElem? hj)⟩⟩
  | succ r => simp at hr

theorem splice_get {α : Type} (xs ys : List α) (i q : Nat) (hi : i + ys.length ≤ xs.length) :
    (splice xs i ys)[q]? = if q < i then xs[q]? else if q < i + ys.length then ys[q - i]? else xs[q]? := by
  unfold splice
  rw [List.append_assoc, List.getElem?_append]
  have h1 : (xs.take i).length = i := by simp; omega
  rw [h1]
  by_cases hq : q < i
  · rw [if_pos hq, if_pos hq, List.getElem?_take_of_lt hq]
  · rw [if_neg hq, if_neg hq, List.getElem?_append]
    by_cases hq2 : q < i + ys.length
    · rw [if_pos hq2, if_pos (by omega)]
    · rw [if_neg hq2, if_neg (by omega), List.getElem?_drop]
      congr 1; omega
theorem splice_length {α : Type} (xs ys : List α) (i : Nat) (hi : i + ys.length ≤ xs.length) : (splice xs i ys).length = xs.length := by
  unfold splice; simp; omega

/-- A block of rows, some of which are written. -/
theorem rows_put {l : Loc} {k i : Nat} {old new : List (List V)} {us : List Value} (hB : BlkR C e (.rows k old false) l w) (hr : VRR e k new us) (hi : i + new.length ≤ old.length) :
    Free w l.cb (l.sh + i * k) us.length ∧ BlkR C e (.rows k (splice old i new) false) l (w.setCells l.cb (l.sh + i * k) us) := by
  obtain ⟨⟨hk, hk0, hroom⟩, hrows⟩ := hB
  have hcell : ∀ q, i * k ≤ q → q < i * k + us.length → (w.cell? ⟨l.cb, l.sh + q, none⟩).isSome = true ∧ w.frozen? ⟨l.cb, l.sh + q, none⟩ = false := by
    intro q h1 h2
    have hq : q / k < old.length := by
      rw [hr.len, ← Nat.add_mul] at h2
      exact Nat.lt_of_lt_of_le ((Nat.div_lt_iff_lt_mul hk0).2 h2) hi
    obtain ⟨hlen, hcs⟩ := hrows (q / k) old[q / k] (List.getElem?_eq_getElem hq)
    have hm : q % k < (old[q / k]).length := by rw [hlen]; exact Nat.mod_lt _ hk0
    obtain ⟨u, hu, _, hc⟩ := hcs (q % k) _ (List.getElem?_eq_getElem hm)
    have : l.sh + q / k * k + q % k = l.sh + q := by rw [Nat.add_assoc, Nat.div_add_mod']
    rw [this] at hu hc
    exact ⟨by rw [show w.cell? ⟨l.cb, l.sh + q, none⟩ = some u from hu]; rfl, hc rfl⟩
  have hfree : Free w l.cb (l.sh + i * k) us.length := fun j hj => by
    have := hcell (i * k + j) (by omega) (by omega)
    rw [Nat.add_assoc]; exact this
  refine ⟨hfree, ⟨hk, hk0, fun _ => room_set (hroom rfl)⟩, fun r row hrow => ?_⟩
  rw [splice_get _ _ _ _ hi] at hrow
  have outside : r < i ∨ i + new.length ≤ r → old[r]? = some row → row.length = k ∧ ∀ (j : Nat) (v : V), row[j]? = some v →
      ∃ u, cellAt (w.setCells l.cb (l.sh + i * k) us) l.cb (l.sh + r * k + j) = some u ∧ CR e v u ∧ (false = false → cold (w.setCells l.cb (l.sh + i * k) us) l.cb (l.sh + r * k + j)) := by
    intro hout ho
    obtain ⟨hlen, hcs⟩ := hrows r row ho
    refine ⟨hlen, fun j v hj => ?_⟩
    obtain ⟨u, hu, hv, hc⟩ := hcs j v hj
    have hjk : j < k := by rw [← hlen]; exact (List.getElem?_eq_some_iff.1 hj).1
    refine ⟨u, ?_, hv, fun _ => cold_set _ (hc rfl)⟩
    rw [cell_out _ ?_]; exact hu
    rcases hout with hout | hout
    · have : (r + 1) * k ≤ i * k := Nat.mul_le_mul_right k hout
      rw [Nat.add_mul] at this; left; omega
    · have : (i + new.length) * k ≤ r * k := Nat.mul_le_mul_right k hout
      rw [Nat.add_mul] at this; right; rw [hr.len]; omega
  by_cases h1 : r < i
  · rw [if_pos h1] at hrow; exact outside (.inl h1) hrow
  · rw [if_neg h1] at hrow
    by_cases h2 : r < i + new.length
    · rw [if_pos h2] at hrow
      obtain ⟨hlen, hcs⟩ := hr.row (r - i) row hrow
      refine ⟨hlen, fun j v hj => ?_⟩
      obtain ⟨u, hu, hv⟩ := hcs j v hj
      have hjk : j < k := by rw [← hlen]; exact (List.getElem?_eq_some_iff.1 hj).1
      have hpos : l.sh + i * k + ((r - i) * k + j) = l.sh + r * k + j := by
        have : i * k + (r - i) * k = r * k := by rw [← Nat.add_mul]; congr 1; omega
        omega
      refine ⟨u, ?_, hv, fun _ => ?_⟩
      · have := cell_in hfree _ u hu
        rwa [hpos] at this
      · have hlt : (r - i) * k + j < us.length := (List.getElem?_eq_some_iff.1 hu).1
        have := (hfree _ hlt).2
        rw [hpos] at this
        exact cold_set _ this
    · rw [if_neg h2] at hrow; exact outside (.inr (by omega)) hrow

theorem bytes_put {l : Loc} {i : Nat} {old new : List UInt8} {us : List Value} (hB : BlkR C e (.bytes old false) l w) (hr : us = new.map fun c => Value.int .u8 c.toNat) (hi : i + new.length ≤ old.length) :
    Free w l.cb (l.sh + i) us.length ∧ BlkR C e (.bytes (splice old i new) false) l (w.setCells l.cb (l.sh + i) us) := by
  obtain ⟨⟨hk, hroom⟩, hbs⟩ := hB
  have hlen : us.length = new.length := by rw [hr]; simp
  have hfree : Free w l.cb (l.sh + i) us.length := fun j hj => by
    have hq : i + j < old.length := by omega
    obtain ⟨h1, h2⟩ := hbs (i + j) _ (List.getElem?_eq_getElem hq)
    rw [← Nat.add_assoc] at h1 h2
    exact ⟨by rw [show w.cell? ⟨l.cb, l.sh + i + j, none⟩ = _ from h1]; rfl, h2 rfl⟩
  refine ⟨hfree, ⟨hk, fun _ => room_set (hroom rfl)⟩, fun r c hc => ?_⟩
  rw [splice_get _ _ _ _ hi] at hc
  have outside : r < i ∨ i + new.length ≤ r → old[r]? = some c → cellAt (w.setCells l.cb (l.sh + i) us) l.cb (l.sh + r) = some (.int .u8 c.toNat) ∧ (false = false → cold (w.setCells l.cb (l.sh + i) us) l.cb (l.sh + r)) := by
    intro hout ho
    obtain ⟨h1, h2⟩ := hbs r c ho
    refine ⟨?_, fun _ => cold_set _ (h2 rfl)⟩
    rw [cell_out _ (by omega)]; exact h1
  by_cases h1 : r < i
  · rw [if_pos h1] at hc; exact outside (.inl h1) hc
  · rw [if_neg h1] at hc
    by_cases h2 : r < i + new.length
    · rw [if_pos h2] at hc
      have hu : us[r - i]? = some (.int .u8 c.toNat) := by rw [hr, List.getElem?_map, hc]; rfl
      have hpos : l.sh + i + (r - i) = l.sh + r := by omega
      have hlt : r - i < us.length := (List.getElem?_eq_some_iff.1 hu).1
      refine ⟨?_, fun _ => ?_⟩
      · have := cell_in hfree _ _ hu; rwa [hpos] at this
      · have := (hfree _ hlt).2
        rw [hpos] at this
        exact cold_set _ this
    · rw [if_neg h2] at hc; exact outside (.inr (by omega)) hc

/-- A write into a block of one's own. -/
theorem Stp.cells (s : Sim C B e h w) {b : Nat} {x x' : Blk} {l : Loc} (hb : h.get b = some x) (hown : x.own = true) (hl : e b = some l) (o : Nat) (us : List Value)
    (hx : BlkR C e x' l (w.setCells l.cb o us)) : Stp C B e h w e (h.set b x') (w.setCells l.cb o us) :=
  Stp.set s hb hown hl (fun c hc => setCells_heap _ _ _ _ _ hc) (setCells_size _ _ _ _) hx (setCells_sky _ _ _ _)

theorem byteOf_sound {v : V} {c : UInt8} {u : Value} (hb : byteOf v = some c) (hv : VR e v u) : u = .int .u8 c.toNat := by
  unfold byteOf at hb
  split at hb
  · rename_i n
    split at hb
    · rename_i hn
      simp at hb
      subst hb
      cases hv
      have : (UInt8.ofNat n.toNat).toNat = n.toNat := by
        rw [UInt8.toNat_ofNat']
        omega
      rw [this]
      congr 1
      omega
    · simp at hb
  · simp at hb

theorem flats_one {vs : List V} {us : List Value} (hv : VRL e vs us) (hf : vs.all V.flat = true) : ∀ u ∈ us, u.oneCell' = true := by
  intro u hu
  obtain ⟨j, hj⟩ := List.mem_iff_getElem?.1 hu
  have hlt : j < vs.length := by rw [hv.length]; exact (List.getElem?_eq_some_iff.1 hj).1
  obtain ⟨u', h1, h2⟩ := hv.get j _ (List.getElem?_eq_getElem hlt)
  rw [hj] at h1; cases h1
  exact V.flat_one h2 (by simpa using List.all_eq_true.1 hf _ (List.getElem_mem hlt))

theorem wr_sound (s : Sim C B e h w) {b r f : Nat} {vs : List V} {us : List Value} {l : Loc} (hl : e b = some l) (hw : h.wr b r f vs = some h') (hv : VRL e vs us) :
    (Go.storeCells ⟨l.cb, l.sh + r * l.k + f, none⟩ us).run P w = .ok () (w.setCells l.cb (l.sh + r * l.k + f) us) ∧ Stp C B e h w e h' (w.setCells l.cb (l.sh + r * l.k + f) us) := by
  unfold H.wr at hw
  split at hw
  · rename_i k rs hb
    obtain ⟨l', hl', hB, _, _⟩ := s.blk b _ hb
    rw [hl] at hl'; cases hl'
    cases hrow : rs[r]? with
    | none => rw [hrow] at hw; simp at hw
    | some row =>
      rw [hrow] at hw
      simp only [Option.bind_some] at hw
      split at hw
      · rename_i hle
        obtain ⟨hle, hflat⟩ := hle
        simp at hw
        subst hw
        obtain ⟨⟨hk, hk0, hroom⟩, hrows⟩ := hB
        obtain ⟨hlen, hcs⟩ := hrows r row hrow
        have hus := hv.length
        have hcell : ∀ q, q < k → ∃ u, cellAt w l.cb (l.sh + r * k + q) = some u ∧ cold w l.cb (l.sh + r * k + q) := fun q hq => by
          obtain ⟨u, hu, _, hc⟩ := hcs q row[q] (List.getElem?_eq_getElem (by omega))
          exact ⟨u, hu, hc rfl⟩
        have hfree : Free w l.cb (l.sh + r * l.k + f) us.length := fun j hj => by
          obtain ⟨u, hu, hc⟩ := hcell (f + j) (by omega)
          rw [hk, Nat.add_assoc]
          exact ⟨by rw [show w.cell? ⟨l.cb, l.sh + r * k + (f + j), none⟩ = _ from hu]; rfl, hc⟩
        refine ⟨hfree.store (flats_one hv hflat), Stp.cells s hb rfl hl _ _ ⟨⟨hk, hk0, fun _ => room_set (hroom rfl)⟩, fun q row' hq => ?_⟩⟩
        have hrl : r < rs.length := (List.getElem?_eq_some_iff.1 hrow).1
        rw [List.getElem?_set] at hq
        by_cases hqr : r = q
        · subst hqr
          rw [if_pos rfl, if_pos hrl] at hq
          simp at hq
          subst hq
          refine ⟨by simp; omega, fun j v hj => ?_⟩
          have hj' : (splice row f vs)[j]? = some v := by unfold splice; rw [List.append_assoc]; exact hj
          rw [splice_get _ _ _ _ hle] at hj'
          have keep : j < f ∨ f + vs.length ≤ j → row[j]? = some v → ∃ u, cellAt (w.setCells l.cb (l.sh + r * l.k + f) us) l.cb (l.sh + r * k + j) = some u ∧ CR e v u ∧
              (false = false → cold (w.setCells l.cb (l.sh + r * l.k + f) us) l.cb (l.sh + r * k + j)) := by
            intro hout ho
            obtain ⟨u, hu, hvr, hc⟩ := hcs j v ho
            refine ⟨u, ?_, hvr, fun _ => cold_set _ (hc rfl)⟩
            rw [hk, cell_out _ (by omega)]; exact hu
          by_cases h1 : j < f
          · rw [if_pos h1] at hj'; exact keep (.inl h1) hj'
          · rw [if_neg h1] at hj'
            by_cases h2 : j < f + vs.length
            · rw [if_pos h2] at hj'
              obtain ⟨u, hu, hvr⟩ := hv.get _ _ hj'
              have hin := cell_in hfree _ u hu
              have hpos : l.sh + r * l.k + f + (j - f) = l.sh + r * k + j := by rw [hk]; omega
              rw [hpos] at hin
              have hlt : j - f < us.length := (List.getElem?_eq_some_iff.1 hu).1
              have hc := (hfree _ hlt).2
              rw [hpos] at hc
              exact ⟨u, hin, ⟨hvr, List.all_eq_true.1 hflat _ (List.mem_of_getElem? hj')⟩, fun _ => cold_set _ hc⟩
            · rw [if_neg h2] at hj'; exact keep (.inr (by omega)) hj'
        · rw [if_neg hqr] at hq
          obtain ⟨hlen', hcs'⟩ := hrows q row' hq
          refine ⟨hlen', fun j v hj => ?_⟩
          obtain ⟨u, hu, hvr, hc⟩ := hcs' j v hj
          have hjk : j < k := by rw [← hlen']; exact (List.getElem?_eq_some_iff.1 hj).1
          refine ⟨u, ?_, hvr, fun _ => cold_set _ (hc rfl)⟩
          rw [hk, cell_out _ ?_]; exact hu
          rcases Nat.lt_or_gt_of_ne hqr with hlt | hlt
          · have : (r + 1) * k ≤ q * k := Nat.mul_le_mul_right k hlt
            rw [Nat.add_mul] at this; right; omega
          · have : (q + 1) * k ≤ r * k := Nat.mul_le_mul_right k hlt
            rw [Nat.add_mul] at this; left; omega
      · simp at hw
  · rename_i bs hb
    obtain ⟨l', hl', hB, _, _⟩ := s.blk b _ hb
    rw [hl] at hl'; cases hl'
    split at hw
    · rename_i hc
      obtain ⟨hlt, rfl⟩ := hc
      have hk := hB.1.1
      split at hw
      · simp at hw; subst hw
        cases hv
        exact ⟨rfl, Stp.refl s⟩
      · rename_i v
        cases hv with
        | cons _ u _ us' hvu hs =>
          cases hs
          cases hbv : byteOf v with
          | none => rw [hbv] at hw; simp at hw
          | some c =>
            rw [hbv] at hw; simp at hw; subst hw
            obtain rfl := byteOf_sound hbv hvu
            obtain ⟨hf, hb'⟩ := bytes_put (i := r) (new := [c]) hB rfl (by simp; omega)
            have e1 : l.sh + r * l.k + 0 = l.sh + r := by rw [hk]; simp
            have e2 : splice bs r [c] = bs.set r c := by
              apply List.ext_getElem?
              intro q
              rw [splice_get _ _ _ _ (by simp; omega), List.getElem?_set]
              by_cases h1 : q < r
              · rw [if_pos h1, if_neg (by omega)]
              · rw [if_neg h1]
                by_cases h2 : q < r + 1
                · have : r = q := by omega
                  subst this
                  simp [hlt]
                · rw [if_neg (by simpa using h2), if_neg (by omega)]
            rw [e1]
            rw [e2] at hb'
            exact ⟨hf.store (by simp [Go.Value.oneCell']), Stp.cells s hb rfl hl _ _ hb'⟩
      · simp at hw
    · simp at hw
  · simp at hw

end Am
