/- AmApp3: append of bytes. -/
import Derived.Test.YtibmhhdgcbaofaaDoorAmApp2
namespace Am
set_option linter.unusedVariables false
set_option linter.unusedSimpArgs false
open Go (IntKind BinOp UnOp Value Program TypeId TypeDesc Operand Oper Code Tmp World Addr Obj Act)

variable {P : Program} {C : Cx} {B : Nat} {e e' : Emb} {h h' : H} {w w' : World}

abbrev bcells (bs : List UInt8) : List Value := bs.map fun (c : UInt8) => Value.int .u8 c.toNat
theorem bcells_one (bs : List UInt8) : ∀ u ∈ bcells bs, u.oneCell' = true := by simp [bcells, Go.Value.oneCell']

theorem first_bytes {len c : Nat} {A : Option Addr} {bs : List UInt8} (n : Nat) (hk : bs.length = n) (hl : n = 0 ∨ ∃ cb o, A = some ⟨cb, o, none⟩ ∧ Lies w cb o (bcells bs)) :
    (Go.Builtin.firstCells 1 n (.slice A len c)).run P w = .ok (bcells bs).toArray w :=
  first_rows n (by simp [bcells, hk]) hl

theorem bytes_place {l : Loc} {r len : Nat} {all new : List UInt8} (hB : BlkR C e (.bytes all false) l w) (hroom : r + len + new.length ≤ l.top) (hlen : len = 0 ∨ r + len ≤ all.length) :
    Free w l.cb (l.sh + (r + len)) (bcells new).length ∧
      BlkR C e (.bytes ((if len = 0 then [] else (all.drop r).take len) ++ new) false) ⟨l.cb, l.sh + r, 1, l.top - r⟩ (w.setCells l.cb (l.sh + (r + len)) (bcells new)) := by
  obtain ⟨⟨hk, hrm⟩, hbs⟩ := hB
  have hroom' := hrm rfl
  have hn : (bcells new).length = new.length := by simp [bcells]
  have hfree : Free w l.cb (l.sh + (r + len)) (bcells new).length := fun j hj => by
    have hlt : r + len + j < l.top * l.k := by rw [hk]; omega
    have := hroom'.1 _ hlt
    rw [Nat.add_assoc]; exact this
  refine ⟨hfree, ⟨rfl, fun _ => ⟨fun q hq => ?_, mild_set (l := l) _ _ _ _ hroom'.2⟩⟩, fun p x hp => ?_⟩
  · have hlt : r + q < l.top * l.k := by rw [hk]; simp only at hq; omega
    have := (room_set (cb := l.cb) (o := l.sh + (r + len)) (us := bcells new) hroom').1 _ hlt
    simp only
    rw [Nat.add_assoc]; exact this
  · have hold : p < len → all[r + p]? = some x → cellAt (w.setCells l.cb (l.sh + (r + len)) (bcells new)) l.cb (l.sh + r + p) = some (.int .u8 x.toNat) ∧
        (false = false → cold (w.setCells l.cb (l.sh + (r + len)) (bcells new)) l.cb (l.sh + r + p)) := by
      intro hpl hx
      obtain ⟨h1, h2⟩ := hbs _ x hx
      rw [← Nat.add_assoc] at h1 h2
      refine ⟨?_, fun _ => cold_set _ (h2 rfl)⟩
      rw [cell_out _ (by omega)]; exact h1
    have hnew : ∀ q, p = len + q → new[q]? = some x → cellAt (w.setCells l.cb (l.sh + (r + len)) (bcells new)) l.cb (l.sh + r + p) = some (.int .u8 x.toNat) ∧
        (false = false → cold (w.setCells l.cb (l.sh + (r + len)) (bcells new)) l.cb (l.sh + r + p)) := by
      intro q hp hx
      have hu : (bcells new)[q]? = some (.int .u8 x.toNat) := by simp [bcells, hx]
      have h2 := cell_in hfree _ _ hu
      have h3 := (hfree _ (List.getElem?_eq_some_iff.1 hu).1).2
      have e1 : l.sh + (r + len) + q = l.sh + r + p := by omega
      rw [e1] at h2 h3
      exact ⟨h2, fun _ => cold_set _ h3⟩
    by_cases h0 : len = 0
    · rw [if_pos h0] at hp
      exact hnew p (by omega) (by simpa using hp)
    · rw [if_neg h0] at hp
      have hl2 : ((all.drop r).take len).length = len := by simp; omega
      rw [List.getElem?_append] at hp
      rw [hl2] at hp
      by_cases hpl : p < len
      · rw [if_pos hpl, List.getElem?_take_of_lt hpl, List.getElem?_drop] at hp
        exact hold hpl hp
      · rw [if_neg hpl] at hp
        exact hnew (p - len) (by omega) hp

theorem appBytes_sound {el : TypeId} {bytes len cap : Nat} {ex zeros : Bool} {a : Option (Nat × Nat)} {new : List UInt8} {v : V} {sv x zv : Value} {appended : Go.Sem (Array Value)}
    (s : Sim C B e h w) (hev : appBytes h bytes a len cap ex new = some (v, h')) (hv : VR e (.sl a len cap ex) sv)
    (hby : bytesOfT P el = some bytes) (hz : ∀ w, (Go.zeroValue el).run P w = .ok zv w) (hzk : zv.cells.size = 1) (happ : ∀ w2 : World, w2.heap = w.heap → appended.run P w2 = .ok (bcells new).toArray w2) :
    ∃ A c u w' e', sv = .slice A len c ∧ (appCore el 1 A len c new.length zeros x appended).run P w = .ok u w' ∧ VR e' v u ∧ Stp C B e h w e' h' w' := by
  have hnl : (bcells new).length = new.length := by simp [bcells]
  unfold appBytes at hev
  by_cases hle : len + new.length ≤ cap
  · rw [if_pos hle] at hev
    obtain ⟨h2, hput, hev⟩ := Option.bind_eq_some_iff.1 hev
    cases hev
    obtain ⟨A, c, w', rfl, hst, hstp⟩ := bput_sound (P := P) s hput hv (by omega)
    have hc : len + new.length ≤ c := by
      cases hv with
      | sl0 => exact hle
      | sl _ _ _ _ _ _ _ _ _ _ h3 => omega
    refine ⟨A, c, _, w', e, rfl, core_place (happ w rfl) hc (by cases A <;> simpa using hst), ?_, hstp⟩
    cases hv with
    | sl0 =>
      have : new.length = 0 := by omega
      rw [this]; exact .sl0 ex
    | sl b r _ _ _ _ l A hl h2 h3 h4 h5 => exact .sl b r _ _ _ _ l A hl hle h3 h4 h5
  · rw [if_neg hle] at hev
    split at hev
    · rename_i hroom
      obtain ⟨old, hold, hev⟩ := Option.bind_eq_some_iff.1 hev
      obtain ⟨h2, hlose, hev⟩ := Option.bind_eq_some_iff.1 hev
      cases hev
      obtain ⟨holdl, A, c, rfl, hlies⟩ := bseg_sound s hold hv (Nat.le_refl _)
      have grow : ¬ len + new.length ≤ c → Sim C B e h2 w → Stp C B e h w e h2 w → ∃ A' c' u w' e', (Value.slice A len c) = .slice A' len c' ∧ (appCore el 1 A' len c' new.length zeros x appended).run P w = .ok u w' ∧
          VR e' (.sl (some (h2.nx, 0)) (len + new.length) (len + new.length) false) u ∧ Stp C B e h w e' (h2.push (.bytes (old ++ new) false)) w' := by
        intro hgt s2 st2
        have hf : ∀ w2 : World, w2.heap = w.heap → (Go.Builtin.firstCells 1 len (.slice A len c)).run P w2 = .ok (bcells old).toArray w2 := fun w2 hw2 =>
          first_bytes len holdl (by
            rcases hlies with h0 | ⟨cb, o, hA, hl⟩
            · exact .inl h0
            · exact .inr ⟨cb, o, hA, fun j u hj => by have := hl j u hj; simpa only [World.cell?, hw2] using this⟩)
        obtain ⟨cp, w1, hcp, hlaid, hrun⟩ := core_grow (P := P) (el := el) (size := 1) (zeros := zeros) (x := x) (w' := w) happ hgt hby hroom rfl hf hz
        have hheap := laid_heap hlaid
        have hcells : ∀ e', e.le e' → BlkR C e' (.bytes (old ++ new) false) ⟨w.heap.size, 0, 1, cp⟩ w1 := fun e' _ => by
          refine blk_bytes (push_get hheap) (fun j u hj => ?_) ?_ (fun j _ hx => by have := hx.2; simp at this)
          · have hlt : j < (old ++ new).length := (List.getElem?_eq_some_iff.1 hj).1
            have hj2 : (bcells old ++ bcells new)[j]? = some (.int .u8 u.toNat) := by
              simp only [bcells, ← List.map_append, List.getElem?_map, hj]; rfl
            rw [← List.getElem?_toArray] at hj2
            rw [Array.getElem?_append_left (by simp [bcells] at hlt ⊢; exact hlt)]
            simpa using hj2
          · simp only [Array.size_append, zeroCells_size, hzk]
            simp [bcells]; omega
        have st3 := Stp.fresh s2 hheap hcells (laid_sky hlaid)
        refine ⟨A, c, _, w1, _, rfl, hrun, ?_, st2.trans st3⟩
        refine .sl _ 0 _ _ cp false ⟨w.heap.size, 0, 1, cp⟩ _ (Emb.add_same _ _ _) (Nat.le_refl _) hcp (by simp) (fun _ => ⟨by simp, by simp⟩)
      unfold H.loseB at hlose
      by_cases hex : ex = true
      · rw [if_pos hex] at hlose
        simp at hlose; subst hlose
        refine grow ?_ s (Stp.refl s)
        cases hv with
        | sl0 => omega
        | sl _ _ _ _ _ _ _ _ _ _ h3 h4 => have := h4 hex; omega
      · rw [if_neg hex] at hlose
        cases a with
        | none =>
          simp at hlose; subst hlose
          refine grow ?_ s (Stp.refl s)
          cases hv with
          | sl0 => omega
        | some br =>
          obtain ⟨b, r⟩ := br
          simp only at hlose
          split at hlose
          · rename_i all hb
            simp at hlose; subst hlose
            by_cases hgt : len + new.length ≤ c
            · cases hv with
              | sl _ _ _ _ _ _ l A hl h2 h3 h4 h5 =>
                have hc0 : c ≠ 0 := by omega
                obtain ⟨hA, htop⟩ := h5 hc0
                obtain ⟨l', hl', hB, hlt, ho⟩ := s.blk b _ hb
                rw [hl] at hl'; cases hl'
                have hk := hB.1.1
                have hlen : len = 0 ∨ r + len ≤ all.length := by
                  unfold H.bseg at hold
                  by_cases h0 : len = 0
                  · exact .inl h0
                  · rw [if_neg h0] at hold
                    simp only [hb] at hold
                    split at hold
                    · rename_i hx; exact .inr hx
                    · simp at hold
                have hseg : old = if len = 0 then [] else (all.drop r).take len := by
                  unfold H.bseg at hold
                  by_cases h0 : len = 0
                  · rw [if_pos h0] at hold ⊢; simp at hold; exact hold
                  · rw [if_neg h0] at hold ⊢
                    simp only [hb] at hold
                    split at hold
                    · simp at hold; exact hold.symm
                    · simp at hold
                obtain ⟨hfree, _⟩ := bytes_place (r := r) (len := len) (new := new) hB (by omega) hlen
                have hB' := (bytes_place (C := C) (r := r) (len := len) (new := new) (hB.mono (Emb.le_add (b := h.nx) ⟨l.cb, l.sh + r, 1, l.top - r⟩ s.fresh)) (by omega) hlen).2
                rw [← hseg] at hB'
                have hst := hfree.store (P := P) (bcells_one new)
                have st := Stp.replace s (b := b) (x' := .bytes (old ++ new) false) (l' := ⟨l.cb, l.sh + r, 1, l.top - r⟩) hb rfl hl rfl
                  (fun q hq => setCells_heap _ _ (l.sh + (r + len)) w q hq) (setCells_size _ _ _ _) hB' (setCells_sky _ _ _ _)
                refine ⟨some A, c, _, _, _, rfl, core_place (happ w rfl) hgt (w' := w.setCells l.cb (l.sh + (r + len)) (bcells new)) ?_, ?_, st⟩
                · have hadd : A.add (len * 1) = ⟨l.cb, l.sh + (r + len), none⟩ := by
                    rw [hA, add_mk, hk, Nat.mul_one, Nat.mul_one, Nat.add_assoc]
                  simp only [hadd]; exact hst
                · exact .sl _ 0 _ _ c false ⟨l.cb, l.sh + r, 1, l.top - r⟩ A (Emb.add_same _ _ _) (Nat.le_refl _) hgt (by simp) (fun _ => ⟨by rw [hA, hk]; simp, by simp; omega⟩)
            · exact grow hgt (s.kill b) (Stp.kill s b)
          · simp at hlose
    · simp at hev

end Am
