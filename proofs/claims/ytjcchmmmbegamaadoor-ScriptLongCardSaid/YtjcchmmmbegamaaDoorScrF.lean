/- Numbers of any size written, by the library's FormatInt, whose table the heap holds. -/
import Derived.Test.YtjcchmmmbegamaaDoorScrB
import Derived.Test.YtjcchmmmbegamaaDoorAmBulk
import Derived.Shelf.Strconv.Itoa4
import Derived.Lib.LaidTab
namespace Am
set_option linter.unusedVariables false
set_option linter.unusedSimpArgs false
open Go (IntKind Value Program TypeId World DataW MemPlace)
variable {P : Program}

def powRow : List V := Go.Lib.pow10Tab.map fun z => .i .u64 z
theorem powRow_len : powRow.length = 20 := by rw [powRow, List.length_map, Go.Lib.pow10Tab_length]
/-- The heap holds the table as block T. -/
def hasT (T : Nat) (h : H) : Bool :=
  match h.get T with
  | some (.rows 20 [row] true) => V.beq (.agg row) (.agg powRow) && decide (T < h.nx)
  | _ => false
theorem hasT_some {T : Nat} {h : H} (hh : hasT T h = true) : h.get T = some (.rows 20 [powRow] true) ∧ T < h.nx := by
  unfold hasT at hh
  split at hh
  · rename_i row e
    simp only [Bool.and_eq_true, decide_eq_true_eq] at hh
    have := V.beq_eq _ _ hh.1
    cases this
    exact ⟨e, hh.2⟩
  · cases hh
theorem hasT_of {T : Nat} {h : H} (hh : h.get T = some (.rows 20 [powRow] true)) (hn : T < h.nx) : hasT T h = true := by
  unfold hasT; rw [hh]
  simp only [Bool.and_eq_true, decide_eq_true_eq]
  exact ⟨V.beq_refl _, hn⟩
/-- The table, in a world that the heap stands for. -/
theorem tabIs_of {T : Nat} (hgl : glOf P T = some ⟨T, 0, 20, 1⟩) {name : String} (hname : P.globalNamed name = some T) {B : Nat} {e : Emb} {h : H} {w : World} (s : Sim (CC P) B e h w) (hh : hasT T h = true) : Go.Lib.TabIs P w name .u64 Go.Lib.pow10Tab := by
  obtain ⟨hb, _⟩ := hasT_some hh
  obtain ⟨l, hl, hR, _⟩ := s.blk T _ hb
  have h1 : e T = some ⟨T, 0, 20, 1⟩ := s.gl T _ hgl
  rw [h1] at hl; cases hl
  obtain ⟨_, hrow⟩ := hR
  obtain ⟨_, hc⟩ := hrow 0 _ rfl
  obtain ⟨cs, el, fz, hobj, hsz⟩ := (s.tab T _ _ hgl hb).2 20 powRow rfl (by decide)
  have hobj : w.heap[T]? = some (.cells cs el fz) := hobj
  unfold Go.Lib.TabIs World.var?
  rw [hname]
  simp only [Option.bind_some, hobj]
  congr 1
  apply Array.ext
  · simp [hsz, Go.Lib.pow10Tab_length]
  · intro i h1 h2
    have hi : i < 20 := by omega
    have hpl : i < Go.Lib.pow10Tab.length := by rw [Go.Lib.pow10Tab_length]; exact hi
    have hj : powRow[i]? = some (.i .u64 (Go.Lib.pow10Tab[i])) := by rw [powRow, List.getElem?_map, List.getElem?_eq_getElem hpl]; rfl
    obtain ⟨u, hu, hcr, _⟩ := hc i _ hj
    obtain rfl := hcr.1.i_inv
    simp only [cellAt, World.cell?, hobj, Nat.zero_mul, Nat.zero_add, Nat.add_zero] at hu
    have := Array.getElem?_eq_getElem h1
    simp [this] at hu
    rw [hu]
    simp
/-- Small numbers, and all where the table lies. -/
def zU (T : Nat) (h : H) (n : Int) : Bool := zS h n || hasT T h
theorem zU_ok (T : Nat) : Zok (zU T) := by
  intro h g n hk hz
  unfold zU at hz ⊢
  rw [Bool.or_eq_true] at hz ⊢
  rcases hz with hz | hz
  · exact .inl hz
  · obtain ⟨h1, h2⟩ := hasT_some hz
    exact .inr (hasT_of (by rw [hk.2 T h2]; exact h1) (Nat.lt_of_lt_of_le h2 hk.1))
theorem zU_all {T : Nat} {h : H} (hh : hasT T h = true) (n : Int) : zU T h n = true := by
  unfold zU; rw [hh, Bool.or_true]
theorem fmtU_ok {T : Nat} {ρ : Go.Shelf.Ren} (L : Go.Proofs.Lays.n173 P ρ) {ρ' : Go.Shelf.Ren} (L' : Go.Proofs.LaysM.n173 P ρ') (hρ : ρ'.f 173 = ρ.f 173) (hgl : glOf P T = some ⟨T, 0, 20, 1⟩) (hname : P.globalNamed "internal/strconv.uint64pow10" = some T) : ExtFor P (ρ.f 173) (xFmt (zU T)) := by
  intro args h v h' hev B e w cargs F k hv s hF
  unfold xFmt at hev
  split at hev
  case h_2 => cases hev
  rename_i n b
  split at hev
  case isFalse => cases hev
  rename_i hc
  obtain ⟨rfl, hz, h0, h1⟩ := hc
  unfold zU at hz
  rw [Bool.or_eq_true] at hz
  rcases hz with hz | hz
  · exact fmtS_ok L _ _ _ _ (show xFmt zS [.i .i64 n, .i .i64 10] h = some (v, h') by unfold xFmt; simp only; rw [if_pos ⟨trivial, hz, h0, h1⟩]; exact hev) B e w cargs F k hv s hF
  · have ht := tabIs_of hgl hname s hz
    have hent : (Go.callFunc (ρ.f 173) cargs).run P w = .ok (.enter (ρ.f 173) cargs) w := Go.Proofs.enters_of L.f173 (by kernel_rfl) rfl cargs w
    rw [hent]
    simp only [InvPost]
    refine callsIn_of_calls hF ?_
    obtain ⟨ws⟩ := cargs
    cases hev
    cases hv with
    | cons _ u1 _ us1 g1 g2 =>
    cases g2 with
    | cons _ u2 _ us2 g3 g4 =>
    cases g4
    obtain rfl := g1.i_inv
    obtain rfl := g3.i_inv
    have hcall := Go.Proofs.Any.strconv_FormatInt_10 L' n h0 h1 w ht
    rw [hρ] at hcall
    refine hcall.mono ?_
    rintro E w' ⟨rfl, q, os, rfl⟩
    rw [itoF_eq h0 h1]
    refine ⟨_, rfl, e, .s ⟨(Go.Lib.itoa n).toArray⟩, Stp.more s (fun c hc => ?_) ?_⟩
    · show (w.heap ++ os)[c]? = w.heap[c]?
      rw [Array.getElem?_append_left hc]
    · show w.heap.size ≤ (w.heap ++ os).size
      rw [Array.size_append]; omega

/-- From the row's list to the table. -/
theorem tabIs_at {W : World} {name : String} {k : IntKind} {zs : List Int} {g : Nat} {t e : TypeId} {n : Nat} (hg : P.globalNamed name = some g) (hty : (P.globals[g]?).map (·.type) = some t) (ht : P.underlying t = some (.array n e)) (he : P.underlying e = some (.int k)) (hce : P.cellsOf e = 1) (hct : P.cellsOf t = n) :
    ∀ {laid : List (String × Go.DataW Unit)} {ps : List MemPlace}, Go.DataW.LaidVars P W laid ps → (name, Go.Lib.tabData k zs) ∈ laid → Go.Lib.TabIs P W name k zs
  | [], _, _, hm => by cases hm
  | (nm, d) :: r, ps, h, hm => by
    obtain ⟨g', t', cs, fuel, p, q, hg', ht', hvar, hd, hr, _⟩ := h
    rcases List.mem_cons.1 hm with hm | hm
    · cases hm
      obtain rfl := Option.some.inj (hg.symm.trans hg')
      obtain rfl := Option.some.inj (hty.symm.trans ht')
      unfold Go.Lib.TabIs
      rw [hvar, ← Go.Lib.cells_of_tab ht he hce hct hd]
    · exact tabIs_at hg hty ht he hce hct hr hm
end Am
