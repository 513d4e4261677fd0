/- AmApp2: append, whole. -/
import Derived.Test.YtibmhhdgcbaofaaDoorAmApp
namespace Am
set_option linter.unusedVariables false
set_option linter.unusedSimpArgs false
open Go (IntKind BinOp UnOp Value Program TypeId TypeDesc Operand Oper Code Tmp World Addr Obj Act)

variable {P : Program} {C : Cx} {B : Nat} {e e' : Emb} {h h' : H} {w w' : World}

theorem VRR.append {k : Nat} {xs ys : List (List V)} {us ws : List Value} (h1 : VRR e k xs us) (h2 : VRR e k ys ws) : VRR e k (xs ++ ys) (us ++ ws) := by
  refine ⟨by simp [h1.len, h2.len, Nat.add_mul], fun r row hr => ?_⟩
  rw [List.getElem?_append] at hr
  by_cases hlt : r < xs.length
  · rw [if_pos hlt] at hr
    obtain ⟨a, b⟩ := h1.row r row hr
    refine ⟨a, fun j v hj => ?_⟩
    obtain ⟨u, hu, hv⟩ := b j v hj
    exact ⟨u, by rw [List.getElem?_append_left (List.getElem?_eq_some_iff.1 hu).1]; exact hu, hv⟩
  · rw [if_neg hlt] at hr
    obtain ⟨a, b⟩ := h2.row _ row hr
    refine ⟨a, fun j v hj => ?_⟩
    obtain ⟨u, hu, hv⟩ := b j v hj
    refine ⟨u, ?_, hv⟩
    have e1 : r * k + j = us.length + ((r - xs.length) * k + j) := by
      rw [h1.len, ← Nat.add_assoc, ← Nat.add_mul]
      congr 2; omega
    rw [e1, List.getElem?_append_right (by omega)]
    simpa using hu

/-- Behind an append that went in place where that was not known ahead. -/
theorem rows_place {l : Loc} {k r len : Nat} {all new : List (List V)} {us : List Value} (hB : BlkR C e (.rows k all false) l w) (hr : VRR e k new us) (hroom : r + len + new.length ≤ l.top) (hlen : len = 0 ∨ r + len ≤ all.length) :
    Free w l.cb (l.sh + (r + len) * k) us.length ∧
      BlkR C e (.rows k ((if len = 0 then [] else (all.drop r).take len) ++ new) false) ⟨l.cb, l.sh + r * k, k, l.top - r⟩ (w.setCells l.cb (l.sh + (r + len) * k) us) := by
  obtain ⟨⟨hk, hk0, hrm⟩, hrows⟩ := hB
  have hroom' := hrm rfl
  have hfree : Free w l.cb (l.sh + (r + len) * k) us.length := fun j hj => by
    have hlt : (r + len) * k + j < l.top * l.k := by
      rw [hk]
      have : (r + len + new.length) * k ≤ l.top * k := Nat.mul_le_mul_right k hroom
      rw [Nat.add_mul] at this
      rw [hr.len] at hj; omega
    have := hroom'.1 _ hlt
    rw [Nat.add_assoc]; exact this
  refine ⟨hfree, ⟨rfl, hk0, fun _ => ⟨fun q hq => ?_, mild_set (l := l) _ _ _ _ hroom'.2⟩⟩, fun p row hp => ?_⟩
  · have hlt : r * k + q < l.top * l.k := by
      rw [hk]
      simp only at hq
      rw [Nat.sub_mul] at hq; omega
    have := (room_set (cb := l.cb) (o := l.sh + (r + len) * k) (us := us) hroom').1 _ hlt
    simp only
    rw [Nat.add_assoc]; exact this
  · have hold : ∀ row, p < len → all[r + p]? = some row → row.length = k ∧ ∀ (j : Nat) (v : V), row[j]? = some v →
        ∃ u, cellAt (w.setCells l.cb (l.sh + (r + len) * k) us) l.cb (l.sh + r * k + p * k + j) = some u ∧ CR e v u ∧ (false = false → cold (w.setCells l.cb (l.sh + (r + len) * k) us) l.cb (l.sh + r * k + p * k + j)) := by
      intro row hp hrow
      obtain ⟨a, b⟩ := hrows _ row hrow
      refine ⟨a, fun j v hj => ?_⟩
      obtain ⟨u, hu, hv, hc⟩ := b j v hj
      have hjk : j < k := by rw [← a]; exact (List.getElem?_eq_some_iff.1 hj).1
      have e1 : l.sh + (r + p) * k + j = l.sh + r * k + p * k + j := by rw [Nat.add_mul]; omega
      rw [e1] at hu hc
      refine ⟨u, ?_, hv, fun _ => cold_set _ (hc rfl)⟩
      rw [cell_out _ ?_]; exact hu
      have : (p + 1) * k ≤ len * k := Nat.mul_le_mul_right k hp
      rw [Nat.add_mul] at this
      rw [Nat.add_mul]; left; omega
    have hnew : ∀ q row, p = len + q → new[q]? = some row → row.length = k ∧ ∀ (j : Nat) (v : V), row[j]? = some v →
        ∃ u, cellAt (w.setCells l.cb (l.sh + (r + len) * k) us) l.cb (l.sh + r * k + p * k + j) = some u ∧ CR e v u ∧ (false = false → cold (w.setCells l.cb (l.sh + (r + len) * k) us) l.cb (l.sh + r * k + p * k + j)) := by
      intro q row hp hrow
      obtain ⟨a, b⟩ := hr.row q row hrow
      refine ⟨a, fun j v hj => ?_⟩
      obtain ⟨u, hu, hv⟩ := b j v hj
      have e1 : l.sh + (r + len) * k + (q * k + j) = l.sh + r * k + p * k + j := by subst hp; rw [Nat.add_mul, Nat.add_mul]; omega
      have h2 := cell_in hfree _ u hu
      have h3 := (hfree _ (List.getElem?_eq_some_iff.1 hu).1).2
      rw [e1] at h2 h3
      exact ⟨u, h2, hv, fun _ => cold_set _ h3⟩
    by_cases h0 : len = 0
    · rw [if_pos h0] at hp
      exact hnew p row (by omega) (by simpa using hp)
    · rw [if_neg h0] at hp
      have hl2 : ((all.drop r).take len).length = len := by simp; omega
      rw [List.getElem?_append] at hp
      rw [hl2] at hp
      by_cases hpl : p < len
      · rw [if_pos hpl, List.getElem?_take_of_lt hpl, List.getElem?_drop] at hp
        exact hold row hpl hp
      · rw [if_neg hpl] at hp
        exact hnew (p - len) row (by omega) hp

theorem appRows_sound {el : TypeId} {k bytes len cap : Nat} {ex zeros : Bool} {a : Option (Nat × Nat)} {new : List (List V)} {us : List Value} {v : V} {sv x zv : Value} {appended : Go.Sem (Array Value)}
    (s : Sim C B e h w) (hev : appRows h k bytes a len cap ex new = some (v, h')) (hv : VR e (.sl a len cap ex) sv) (hnew : VRR e k new us) (hk0 : 0 < k)
    (hby : bytesOfT P el = some bytes) (hz : ∀ w, (Go.zeroValue el).run P w = .ok zv w) (hzk : zv.cells.size = k) (happ : ∀ w2 : World, w2.heap = w.heap → appended.run P w2 = .ok us.toArray w2) :
    ∃ A c u w' e', sv = .slice A len c ∧ (appCore el k A len c new.length zeros x appended).run P w = .ok u w' ∧ VR e' v u ∧ Stp C B e h w e' h' w' := by
  have h1 := hnew.cells
  unfold appRows at hev
  by_cases hle : len + new.length ≤ cap
  · rw [if_pos hle] at hev
    obtain ⟨h2, hput, hev⟩ := Option.bind_eq_some_iff.1 hev
    cases hev
    obtain ⟨A, c, w', rfl, hst, hstp⟩ := rput_sound (P := P) s hput hv hnew (by omega)
    have hc : len + new.length ≤ c := by
      cases hv with
      | sl0 => exact hle
      | sl _ _ _ _ _ _ _ _ _ _ h3 => omega
    refine ⟨A, c, _, w', e, rfl, core_place (happ w rfl) hc (by cases A <;> exact hst), ?_, hstp⟩
    cases hv with
    | sl0 =>
      have : new.length = 0 := by omega
      rw [this]; exact .sl0 ex
    | sl b r _ _ _ _ l A hl h2 h3 h4 h5 => exact .sl b r _ _ _ _ l A hl hle h3 h4 h5
  · rw [if_neg hle] at hev
    split at hev
    · rename_i hroom
      obtain ⟨old, hold, hev⟩ := Option.bind_eq_some_iff.1 hev
      obtain ⟨h2, hlose, hev⟩ := Option.bind_eq_some_iff.1 hev
      cases hev
      obtain ⟨holdl, uo, A, c, huo, rfl, hlies⟩ := rseg_sound s hold hv (Nat.le_refl _)
      -- the case that grows
      have grow : ¬ len + new.length ≤ c → Sim C B e h2 w → Stp C B e h w e h2 w → ∃ A' c' u w' e', (Value.slice A len c) = .slice A' len c' ∧ (appCore el k A' len c' new.length zeros x appended).run P w = .ok u w' ∧
          VR e' (.sl (some (h2.nx, 0)) (len + new.length) (len + new.length) false) u ∧ Stp C B e h w e' (h2.push (.rows k (old ++ new) false)) w' := by
        intro hgt s2 st2
        have hf : ∀ w2 : World, w2.heap = w.heap → (Go.Builtin.firstCells k len (.slice A len c)).run P w2 = .ok uo.toArray w2 := fun w2 hw2 =>
          first_rows len (by rw [huo.len, holdl]) (by
            rcases hlies with h0 | ⟨cb, o, hA, hl⟩
            · exact .inl h0
            · exact .inr ⟨cb, o, hA, fun j u hj => by have := hl j u hj; simpa only [World.cell?, hw2] using this⟩)
        obtain ⟨cp, w1, hcp, hlaid, hrun⟩ := core_grow (P := P) (el := el) (size := k) (zeros := zeros) (x := x) (w' := w) happ hgt hby hroom rfl hf hz
        have hheap := laid_heap hlaid
        have hcells : ∀ e', e.le e' → BlkR C e' (.rows k (old ++ new) false) ⟨w.heap.size, 0, k, cp⟩ w1 := fun e' he => by
          refine blk_rows hk0 ((huo.append hnew).mono he) (push_get hheap) (fun j u hj => ?_) ?_ (fun j _ hx => by have := hx.2; simp at this)
          · have hlt : j < (uo ++ us).length := (List.getElem?_eq_some_iff.1 hj).1
            rw [← List.getElem?_toArray] at hj
            rw [Array.getElem?_append_left (by simpa using hlt)]
            simpa using hj
          · simp only [Array.size_append, zeroCells_size, hzk]
            have e1 : uo.toArray.size + us.toArray.size = (len + new.length) * k := by simp [huo.len, hnew.len, holdl, Nat.add_mul]
            rw [e1, ← Nat.add_mul]
            have : cp * k ≤ (len + new.length + (cp - (len + new.length))) * k := Nat.mul_le_mul_right k (by omega)
            exact this
        have st3 := Stp.fresh s2 hheap hcells (laid_sky hlaid)
        refine ⟨A, c, _, w1, _, rfl, hrun, ?_, st2.trans st3⟩
        refine .sl _ 0 _ _ cp false ⟨w.heap.size, 0, k, cp⟩ _ (Emb.add_same _ _ _) (Nat.le_refl _) hcp (by simp) (fun _ => ⟨by simp, by simp⟩)
      unfold H.loseR at hlose
      by_cases hex : ex = true
      · rw [if_pos hex] at hlose
        simp at hlose; subst hlose
        refine grow ?_ s (Stp.refl s)
        cases hv with
        | sl0 => omega
        | sl _ _ _ _ _ _ _ _ _ _ h3 h4 => have := h4 hex; omega
      · rw [if_neg hex] at hlose
        cases a with
        | none =>
          simp at hlose; subst hlose
          refine grow ?_ s (Stp.refl s)
          cases hv with
          | sl0 => omega
        | some br =>
          obtain ⟨b, r⟩ := br
          simp only at hlose
          split at hlose
          · rename_i k' all hb
            split at hlose
            · rename_i hkk
              subst hkk
              simp at hlose; subst hlose
              by_cases hgt : len + new.length ≤ c
              · -- in place after all
                cases hv with
                | sl _ _ _ _ _ _ l A hl h2 h3 h4 h5 =>
                  have hc0 : c ≠ 0 := by omega
                  obtain ⟨hA, htop⟩ := h5 hc0
                  obtain ⟨l', hl', hB, hlt, ho⟩ := s.blk b _ hb
                  rw [hl] at hl'; cases hl'
                  have hk := hB.1.1
                  have hlen : len = 0 ∨ r + len ≤ all.length := by
                    unfold H.rseg at hold
                    by_cases h0 : len = 0
                    · exact .inl h0
                    · rw [if_neg h0] at hold
                      simp only [hb] at hold
                      split at hold
                      · rename_i hx; exact .inr hx.2
                      · simp at hold
                  have hseg : old = if len = 0 then [] else (all.drop r).take len := by
                    unfold H.rseg at hold
                    by_cases h0 : len = 0
                    · rw [if_pos h0] at hold ⊢; simp at hold; exact hold
                    · rw [if_neg h0] at hold ⊢
                      simp only [hb] at hold
                      split at hold
                      · simp at hold; exact hold.symm
                      · simp at hold
                  obtain ⟨hfree, _⟩ := rows_place (r := r) (len := len) hB hnew (by omega) hlen
                  have hB' := (rows_place (C := C) (r := r) (len := len) (hB.mono (Emb.le_add (b := h.nx) ⟨l.cb, l.sh + r * k', k', l.top - r⟩ s.fresh)) (hnew.mono (Emb.le_add _ s.fresh)) (by omega) hlen).2
                  rw [← hseg] at hB'
                  have hst := hfree.store (P := P) h1
                  have st := Stp.replace s (b := b) (x' := .rows k' (old ++ new) false) (l' := ⟨l.cb, l.sh + r * k', k', l.top - r⟩) hb rfl hl rfl
                    (fun q hq => setCells_heap _ _ (l.sh + (r + len) * k') w q hq) (setCells_size _ _ _ _) hB' (setCells_sky _ _ _ _)
                  refine ⟨some A, c, _, _, _, rfl, core_place (happ w rfl) hgt (w' := w.setCells l.cb (l.sh + (r + len) * k') us) ?_, ?_, st⟩
                  · have hadd : A.add (len * k') = ⟨l.cb, l.sh + (r + len) * k', none⟩ := by
                      rw [hA, add_mk, hk, Nat.add_mul, Nat.add_assoc]
                    simp only [hadd]; exact hst
                  · exact .sl _ 0 _ _ c false ⟨l.cb, l.sh + r * k', k', l.top - r⟩ A (Emb.add_same _ _ _) (Nat.le_refl _) hgt (by simp) (fun _ => ⟨by rw [hA, hk]; simp, by simp; omega⟩)
              · exact grow hgt (s.kill b) (Stp.kill s b)
            · simp at hlose
          · simp at hlose
    · simp at hev

end Am
