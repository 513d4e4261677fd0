/- One round of the program's Write: what the model does from the element to the line. -/
import Derived.Test.YtjcchmmmbegamaaDoorScrM
namespace Am
set_option linter.unusedVariables false
set_option linter.unusedSimpArgs false
open Go (IntKind BinOp UnOp Value Program TypeId TypeDesc Operand Oper Code Tmp World Addr Obj Act Fence)
variable {P : Program} {B : Nat} {e : Emb} {h : H} {w : World}

theorem owns_lt (s : Sim (CC P) B e h w) {c : Nat} (ho : Owns e h c) : c < w.heap.size := by
  obtain ⟨b, x, l, hb, _, hl, rfl⟩ := ho
  obtain ⟨l', hl', _, hlt, _⟩ := s.blk b x hb
  rw [hl] at hl'; cases hl'
  exact hlt
/-- A world that is as it was below, and at what the machine knows. -/
theorem Stp.under {w1 w2 : World} (st : Stp (CC P) B e h w e h w1) (s : Sim (CC P) B e h w) (hb : ∀ c, c < w.heap.size → w2.heap[c]? = w1.heap[c]?) (hg : w1.heap.size ≤ w2.heap.size) (hs : Sky w1 w2) : Stp (CC P) B e h w e h w2 := by
  refine ⟨Emb.le_refl _, st.sim.of_heap (fun b x l hx hl => ?_) hg, fun c o => .inr o, fun c o => .inr o, fun c hc ho => ?_, Nat.le_trans st.grow hg, Nat.le_refl _, st.sky.trans hs⟩
  · obtain ⟨l', hl', _, hlt, _⟩ := s.blk b x hx
    rw [hl] at hl'; cases hl'
    exact hb _ hlt
  · rw [hb c hc]; exact st.keep c hc ho
/-- The element's cells. -/
theorem elem_cells {tS tR : Nat} (hS : P.underlying tS = some (.slice tR)) (hz : szOf P tR = some 12)
    {wr : World} (s : Sim (CC P) B e h wr) {b r n c : Nat} {ex : Bool} {sv : Value} (hv : VR e (.sl (some (b, r)) n c ex) sv) {all : List (List V)} {ro : Bool} (hb : h.get b = some (.rows 12 all ro)) {k : Nat} (hk : k < n) {row : List V} (hrow : all[r + k]? = some row) (hrl : row.length = 12) :
    ∃ (Ab Ao : Nat) (us : List Value), us.length = 12 ∧ VRL e row us ∧ (Go.Instr.indexAt tS sv (.int .i64 (k : Nat))).run P wr = .ok (.pointer (some ⟨Ab, Ao, none⟩)) wr ∧ ∀ (j : Nat) u, us[j]? = some u → wr.cell? ⟨Ab, Ao + j, none⟩ = some u ∧ u.oneCell' = true := by
  cases hv with
  | sl _ _ _ _ sc _ l A hl h1 h2 h3 h4 =>
    obtain ⟨hA, _⟩ := h4 (by omega)
    obtain ⟨l2, hl2, hB, _⟩ := s.blk b _ hb
    rw [hl] at hl2; cases hl2
    have hlk : l.k = 12 := hB.1.1
    obtain ⟨_, hcell⟩ := hB.2 (r + k) row hrow
    have hidx : (Go.Instr.indexAt tS (.slice (some A) n sc) (.int .i64 (k : Nat))).run P wr = .ok (.pointer (some ⟨l.cb, l.sh + (r + k) * 12, none⟩)) wr := by
      have hk0 : ((k : Nat) : Int) < ((n : Nat) : Int) := by omega
      simp [Go.Instr.indexAt, Go.asIntOf, Go.run_underlying hS, hk0, hk, run_sz hz, hA, add_mk, hlk, Nat.add_mul, Nat.add_assoc]
    have hus : ∃ us : List Value, us.length = 12 ∧ ∀ j u, us[j]? = some u → ∃ v, row[j]? = some v ∧ cellAt wr l.cb (l.sh + (r + k) * 12 + j) = some u ∧ CR e v u := by
      have hj : ∀ j, j < 12 → ∃ u v, row[j]? = some v ∧ cellAt wr l.cb (l.sh + (r + k) * 12 + j) = some u ∧ CR e v u := fun j hj => by
        have hv : row[j]? = some row[j] := List.getElem?_eq_getElem (by omega)
        obtain ⟨u, hu, hc, _⟩ := hcell j _ hv
        exact ⟨u, _, hv, hu, hc⟩
      have : ∀ m, m ≤ 12 → ∃ us : List Value, us.length = m ∧ ∀ j u, us[j]? = some u → ∃ v, row[j]? = some v ∧ cellAt wr l.cb (l.sh + (r + k) * 12 + j) = some u ∧ CR e v u := by
        intro m
        induction m with
        | zero => intro _; exact ⟨[], rfl, fun j u hu => by simp at hu⟩
        | succ m ih =>
          intro hm
          obtain ⟨us, h1, h2⟩ := ih (by omega)
          obtain ⟨u, v, h3, h4, h5⟩ := hj m (by omega)
          refine ⟨us ++ [u], by simp [h1], fun j u' hu' => ?_⟩
          by_cases hjm : j < m
          · rw [List.getElem?_append_left (by omega)] at hu'
            exact h2 j u' hu'
          · have : j = m := by
              have := (List.getElem?_eq_some_iff.1 hu').1
              simp [h1] at this; omega
            subst this
            rw [List.getElem?_append_right (by omega), h1, Nat.sub_self] at hu'
            simp at hu'; subst hu'
            exact ⟨v, h3, h4, h5⟩
      exact this 12 (Nat.le_refl _)
    obtain ⟨us, hul, hu⟩ := hus
    refine ⟨_, _, us, hul, VRL.of_get (by omega) fun j v u h5 h6 => ?_, hidx, fun j u h6 => ?_⟩
    · obtain ⟨v', h7, _, h8⟩ := hu j u h6
      rw [h5] at h7; cases h7
      exact h8.1
    · obtain ⟨v', _, h7, h8⟩ := hu j u h6
      exact ⟨h7, h8.one⟩
theorem lineE_len {Z : H → Int → Bool} {sp : Sp} (ok : SpOk Z h sp) : (lineE sp).1.length ≤ 60000000 := by
  unfold lineE
  cases hl : lineF sp with
  | none => simp
  | some t =>
    simp only
    unfold lineF at hl
    split at hl
    · cases hl
    · rename_i hk
      split at hl
      · cases hl
        have hki : sp.k.toNat < 10 := by omega
        obtain ⟨h1, h2⟩ := forms_small _ hki
        have := joinS_le (sep := [32]) (K := 10000000) ((formsL.getD sp.k.toNat ([], [])).1 :: (formsL.getD sp.k.toNat ([], [])).2.map fun c => (partF sp (c.toNat : Int)).1) (fun x hx => by
          rcases List.mem_cons.1 hx with rfl | hx
          · omega
          · obtain ⟨c, _, rfl⟩ := List.mem_map.1 hx; exact partF_len sp ok _)
        simp only [List.length_cons, List.length_map, List.length_nil] at this
        rw [List.length_append]
        simp only [List.length_cons, List.length_nil]
        omega
      · cases hl
/-- What Line answers, beside a copy of the element. -/
theorem line_calls {Z : H → Int → Bool} {f9 : Nat} (hx : ExtFor P f9 (gLineS Z)) (hent : ∀ args w, (Go.callFunc f9 args).run P w = .ok (.enter f9 args) w)
    {wr : World} (s : Sim (CC P) B e h wr) {row : List V} {us : Array Value} (hus : VRL e row us.toList) {sp : Sp} (hsp : spRow h sp row) (ok : SpOk Z h sp) :
    Go.Calls P f9 #[.agg us] wr (fun E w3 => ∃ t : ByteArray, E = .returned (.tuple #[.string t, .int .i64 (lineE sp).2]) ∧ t.data.toList = (lineE sp).1 ∧ Stp (CC P) B e h wr e h w3) := by
  have hcall := hx [.agg row] _ _ _ (gLineS_eq (Z := Z) hsp ok) B _ wr #[.agg us] Fence.wide 0 (.cons _ _ _ _ (.agg _ _ hus) .nil) s ⟨fun _ => trivial, rfl, rfl⟩
  rw [hent] at hcall
  refine (Go.callsIn_wide.1 hcall).mono ?_
  rintro E w3 ⟨u3, rfl, e3, hv3, st3⟩
  have hst := Stp.forget s st3 Kept.refl
  rw [lineV_E] at hv3
  cases hv3 with
  | tup _ ws hw =>
    obtain ⟨ws⟩ := ws
    cases hw with
    | cons _ x _ xs h1 h2 =>
      cases h2 with
      | cons _ y _ ys h3 h4 =>
        cases h4
        obtain ⟨b, rfl, hb⟩ := h1.s_inv
        obtain rfl := h3.i_inv
        exact ⟨b, rfl, hb, hst⟩
end Am
