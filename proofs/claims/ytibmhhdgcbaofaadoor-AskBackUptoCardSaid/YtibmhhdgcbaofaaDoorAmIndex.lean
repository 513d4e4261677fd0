/- AmIndex: where a text stands first in another, by the library's contract, which reads a variable of the library's own; laws at a heap that holds that variable. -/
import Derived.Test.YtibmhhdgcbaofaaDoorAmAll3
import Derived.Test.YtibmhhdgcbaofaaDoorAmAll2
import Derived.Shelf.Strings.Search2
namespace Am
set_option linter.unusedVariables false
set_option linter.unusedSimpArgs false
open Go (IntKind BinOp UnOp Value Program TypeId TypeDesc Operand Oper Code Tmp World Addr Obj Act Fence DataW MemPlace)
open Go.Proofs

/-- The heap that holds one variable of the kind int. -/
def hG (G : Nat) (m : Int) : H := h0.set G (.rows 1 [[.i .i64 m]] true)
/-- Does the variable stand there? -/
def hasG (G : Nat) (h : H) : Bool :=
  match h.get G with
  | some (.rows 1 [[.i .i64 _]] true) => true
  | _ => false
theorem hasG_some {G : Nat} {h : H} (hh : hasG G h = true) : ∃ m, h.get G = some (.rows 1 [[.i .i64 m]] true) := by
  unfold hasG at hh
  split at hh
  · rename_i m e; exact ⟨m, e⟩
  · cases hh
theorem hasG_of {G : Nat} {h : H} {m : Int} (hh : h.get G = some (.rows 1 [[.i .i64 m]] true)) : hasG G h = true := by
  unfold hasG; rw [hh]; rfl
theorem hG_get (G : Nat) (m : Int) (b : Nat) : (hG G m).get b = if b = G then some (.rows 1 [[.i .i64 m]] true) else none := by
  unfold hG
  rw [H.get_set]
  by_cases h : b = G
  · rw [if_pos h, if_pos h]
  · rw [if_neg h, if_neg h]
    simp [h0, H.get, Tr.get]
/-- The cell of such a variable, in a world that the heap stands for. -/
theorem cell_of_has {P : Program} {G : Nat} (hgl : glOf P G = some ⟨G, 0, 1, 1⟩) {B : Nat} {e : Emb} {h : H} {w : World} (s : Sim (CC P) B e h w) (hh : hasG G h = true) : ∃ m, w.cell? ⟨G, 0, none⟩ = some (.int .i64 m) := by
  obtain ⟨m, hb⟩ := hasG_some hh
  obtain ⟨l, hl, hR, _⟩ := s.blk G _ hb
  have h1 : e G = some ⟨G, 0, 1, 1⟩ := s.gl G _ hgl
  rw [h1] at hl; cases hl
  obtain ⟨_, hrow⟩ := hR
  obtain ⟨_, hc⟩ := hrow 0 _ rfl
  obtain ⟨u, hu, hcr, _⟩ := hc 0 _ rfl
  obtain rfl := hcr.1.i_inv
  exact ⟨m, hu⟩
theorem sim_G {P : Program} {G : Nat} (hgl : glOf P G = some ⟨G, 0, 1, 1⟩) {w : World} {m : Int} (hc : w.cell? ⟨G, 0, none⟩ = some (.int .i64 m)) : Sim (CC P) w.heap.size (glOf P) (hG G m) w := by
  have hlt : G < w.heap.size := by
    rcases Nat.lt_or_ge G w.heap.size with h1 | h1
    · exact h1
    · simp [World.cell?, Array.getElem?_eq_none h1] at hc
  refine ⟨fun b x hb => ?_, fun b b' x x' l l' hb hb' ho => ?_, fun b l h => glOf_lt h, Nat.le_refl _, fun _ _ h => h⟩
  · rw [hG_get] at hb
    split at hb
    · rename_i he
      subst he; cases hb
      refine ⟨_, hgl, ⟨⟨rfl, Nat.one_pos, fun h => by cases h⟩, fun r row hr => ?_⟩, hlt, fun h => by cases h⟩
      cases r with
      | succ r => simp at hr
      | zero =>
        simp at hr; subst hr
        refine ⟨rfl, fun j v hj => ?_⟩
        cases j with
        | succ j => simp at hj
        | zero =>
          simp at hj; subst hj
          exact ⟨_, hc, ⟨.i _ _, rfl⟩, fun h => by cases h⟩
    · cases hb
  · rw [hG_get] at hb
    split at hb
    · cases hb; cases ho
    · cases hb
theorem hG_ro (G : Nat) (m : Int) : Ro (hG G m) := fun b x hb => by
  rw [hG_get] at hb
  split at hb
  · cases hb; rfl
  · cases hb

/-- A closed run beside the variable. -/
def xConstG (G : Nat) (v : V) (args : List V) (h : H) : Option (V × H) :=
  match args with
  | [] => if hasG G h = true then some (v, h) else none
  | _ => none
theorem ExtFor.closedG {P : Program} {pr : Prog} (hp : ProgOk P pr) {G : Nat} (hgl : glOf P G = some ⟨G, 0, 1, 1⟩) {n f : Nat} (hx : pr.ext f = none) (hrun : ∀ m, yes (runN pr n (.fn f) [] (hG G m)) = true) : ExtFor P f (xConstG G (.b true)) := by
  intro args h v' h' hev B e w cargs F k hv s hF
  unfold xConstG at hev
  split at hev
  · split at hev
    · rename_i hh
      cases hev
      obtain ⟨m, hc⟩ := cell_of_has hgl s hh
      have s0 := sim_G hgl hc
      obtain ⟨cargs⟩ := cargs
      cases hv
      obtain ⟨h1, hrun⟩ := yes_some (hrun m)
      cases n with
      | zero => cases hrun
      | succ n =>
        simp only [runN, evCal, hx] at hrun
        cases hf : pr.fn f with
        | none => rw [hf] at hrun; cases hrun
        | some af =>
          rw [hf] at hrun
          obtain ⟨fn, hP, hcf⟩ := hp.fn f af hf
          have hR := run_sound hp n
          obtain ⟨h2, _⟩ := fn_sound hR (hp.draw _ hR) n hP hcf hrun (F := F) k .nil s0 hF
          refine InvPost.mono h2 ?_
          rintro u w' ⟨e', hu, st⟩
          refine ⟨e, hu.plain rfl, Stp.more s (fun c hc => st.keep c hc ?_) st.grow st.sky⟩
          rintro ⟨b, x, l, hb, ho, _⟩
          rw [hG_ro G m b x hb] at ho
          cases ho
    · cases hev
  · cases hev

/-- Where a text stands first. -/
def idxFrom (sub : List UInt8) : List UInt8 → Nat → Int
  | [], i => if sub.isEmpty then i else -1
  | b :: l, i => if sub.isPrefixOf (b :: l) then i else idxFrom sub l (i + 1)
def fIdxS (l sub : List UInt8) : Int := idxFrom sub l 0
theorem idxFrom_eq (sub : List UInt8) : ∀ (l : List UInt8) (i : Nat), idxFrom sub l i = if Go.Lib.index l sub = -1 then -1 else Go.Lib.index l sub + i
  | [], i => by
    unfold idxFrom Go.Lib.index
    split <;> simp
  | b :: l, i => by
    unfold idxFrom Go.Lib.index
    split
    · simp
    · rw [idxFrom_eq sub l (i + 1)]
      have := Go.Lib.index_ge l sub
      by_cases h : Go.Lib.index l sub = -1
      · simp [h]
      · rw [if_neg h]
        have h1 : (Go.Lib.index l sub == -1) = false := beq_eq_false_iff_ne.2 h
        rw [h1]
        simp only [Bool.false_eq_true, if_false]
        rw [if_neg (by omega)]
        omega
theorem fIdxS_eq (l sub : List UInt8) : fIdxS l sub = Go.Lib.index l sub := by
  unfold fIdxS
  rw [idxFrom_eq]
  split
  · rename_i h; exact h.symm
  · simp

def xIndexS (G : Nat) (args : List V) (h : H) : Option (V × H) :=
  match args with
  | [.s l, .s sub] =>
    match sub with
    | [c] => some (.i .i64 (fIdx l c), h)
    | _ => if l.length < 4294967281 ∧ hasG G h = true then some (.i .i64 (fIdxS l sub), h) else none
  | _ => none

theorem indexByte_lib (l : List UInt8) (c : UInt8) : fIdx l c = Go.Lib.indexByte l c := by
  induction l with
  | nil => rfl
  | cons b l ih =>
    unfold Go.Lib.indexByte
    rw [← ih]
    unfold fIdx
    rw [List.findIdx?_cons]
    cases hb : (b == c) with
    | true => simp
    | false =>
      simp only [Bool.false_eq_true, if_false]
      cases hf : l.findIdx? (fun b => b == c) with
      | none => simp
      | some i =>
        simp <;> omega

theorem xIndexS_ok {P : Program} {ρ : Go.Shelf.Ren} {G : Nat} (L : Go.Proofs.Lays.n219 P ρ) (hgl : glOf P G = some ⟨G, 0, 1, 1⟩) (hG : ρ.g 1 = G) : ExtFor P (ρ.f 219) (xIndexS G) := by
  intro args h v h' hev B e w cargs F k hv s hF
  have hent : (Go.callFunc (ρ.f 219) cargs).run P w = .ok (.enter (ρ.f 219) cargs) w := Go.Proofs.enters_of L.f219 (by kernel_rfl) rfl cargs w
  rw [hent]
  simp only [InvPost]
  refine callsIn_of_calls hF ?_
  obtain ⟨ws⟩ := cargs
  unfold xIndexS at hev
  split at hev
  · rename_i l sub
    cases hv with
    | cons _ u1 _ us1 h1 h2 =>
    cases h2 with
    | cons _ u2 _ us2 h3 h4 =>
    cases h4
    obtain ⟨sl, rfl, rfl⟩ := h1.s_inv
    obtain ⟨ss, rfl, hss⟩ := h3.s_inv
    split at hev
    · rename_i c
      cases hev
      have he : ss = ⟨#[c]⟩ := by
        cases ss
        rename_i d
        simp only at hss
        cases d
        simp only at hss
        subst hss
        rfl
      subst he
      refine (Any.stringslite_Index_one L sl c w).mono ?_
      rintro E w' ⟨rfl, rfl⟩
      rw [← indexByte_lib]
      exact ⟨_, rfl, e, .i _ _, Stp.refl s⟩
    · split at hev
      · rename_i hc
        obtain ⟨hlen, hh⟩ := hc
        cases hev
        subst hss
        obtain ⟨m, hm⟩ := cell_of_has hgl s hh
        refine (Any.stringslite_Index L sl ss m w hlen (by rw [hG]; exact hm)).mono ?_
        rintro E w' ⟨rfl, rfl⟩
        rw [← fIdxS_eq]
        exact ⟨_, rfl, e, .i _ _, Stp.refl s⟩
      · cases hev
  · cases hev

/-! ### A law at such a heap -/
mutual
theorem lay_get : ∀ (x : Dt) (h : H), h.nx ≤ (x.lay h).2.nx ∧ ∀ b, b < h.nx → (x.lay h).2.get b = h.get b
  | .b x, h => ⟨Nat.le_refl _, fun _ _ => rfl⟩
  | .i k n, h => ⟨Nat.le_refl _, fun _ _ => rfl⟩
  | .s l, h => ⟨Nat.le_refl _, fun _ _ => rfl⟩
  | .st xs, h => layL_get xs h
  | .nl, h => ⟨Nat.le_refl _, fun _ _ => rfl⟩
  | .sl k xs, h => by
    obtain ⟨h1, h2⟩ := layR_get xs h
    simp only [Dt.lay]
    split
    · exact ⟨Nat.le_succ_of_le h1, fun b hb => h2 b hb⟩
    · exact ⟨Nat.le_succ_of_le h1, fun b hb => by rw [H.get_push, if_neg (by omega)]; exact h2 b hb⟩
  | .bs l, h => by
    simp only [Dt.lay]
    split
    · exact ⟨Nat.le_succ _, fun b hb => rfl⟩
    · exact ⟨Nat.le_succ _, fun b hb => by rw [H.get_push, if_neg (by omega)]⟩
theorem layL_get : ∀ (xs : List Dt) (h : H), h.nx ≤ (Dt.layL xs h).2.nx ∧ ∀ b, b < h.nx → (Dt.layL xs h).2.get b = h.get b
  | [], h => ⟨Nat.le_refl _, fun _ _ => rfl⟩
  | x :: xs, h => by
    obtain ⟨h1, h2⟩ := lay_get x h
    obtain ⟨h3, h4⟩ := layL_get xs (x.lay h).2
    simp only [Dt.layL]
    exact ⟨Nat.le_trans h1 h3, fun b hb => (h4 b (by omega)).trans (h2 b hb)⟩
theorem layR_get : ∀ (xs : List Dt) (h : H), h.nx ≤ (Dt.layR xs h).2.nx ∧ ∀ b, b < h.nx → (Dt.layR xs h).2.get b = h.get b
  | [], h => ⟨Nat.le_refl _, fun _ _ => rfl⟩
  | x :: xs, h => by
    obtain ⟨h1, h2⟩ := lay_get x h
    obtain ⟨h3, h4⟩ := layR_get xs (x.lay h).2
    simp only [Dt.layR]
    exact ⟨Nat.le_trans h1 h3, fun b hb => (h4 b (by omega)).trans (h2 b hb)⟩
end
theorem arg_get (x : Dt) (h : H) : h.nx ≤ (x.arg h).2.nx ∧ ∀ b, b < h.nx → (x.arg h).2.get b = h.get b := by
  cases x with
  | st xs => exact layL_get xs h
  | b x => exact ⟨Nat.le_refl _, fun _ _ => rfl⟩
  | i k n => exact ⟨Nat.le_refl _, fun _ _ => rfl⟩
  | s l => exact ⟨Nat.le_refl _, fun _ _ => rfl⟩
  | nl => exact ⟨Nat.le_refl _, fun _ _ => rfl⟩
  | sl k xs => exact lay_get (.sl k xs) h
  | bs l => exact lay_get (.bs l) h
theorem args_get : ∀ (xs : List Dt) (h : H), h.nx ≤ (Dt.args xs h).2.nx ∧ ∀ b, b < h.nx → (Dt.args xs h).2.get b = h.get b
  | [], h => ⟨Nat.le_refl _, fun _ _ => rfl⟩
  | x :: xs, h => by
    obtain ⟨h1, h2⟩ := arg_get x h
    obtain ⟨h3, h4⟩ := args_get xs (x.arg h).2
    simp only [Dt.args]
    exact ⟨Nat.le_trans h1 h3, fun b hb => (h4 b (by omega)).trans (h2 b hb)⟩
theorem args_has {G : Nat} (hG4 : G < 4096) (xs : List Dt) (m : Int) : hasG G (Dt.args xs (hG G m)).2 = true :=
  hasG_of (m := m) (by rw [(args_get xs (hG G m)).2 G hG4, hG_get, if_pos rfl])

variable {P : Program}
end Am
