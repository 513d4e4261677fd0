/- A heap that holds some of the library's variables, each only read. -/
import Derived.Test.YtjcchmmmbegamaaDoorScrO
import Derived.Test.YtjcchmmmbegamaaDoorScrF
namespace Am
set_option linter.unusedVariables false
set_option linter.unusedSimpArgs false
open Go (IntKind Value Program TypeId World DataW MemPlace)
variable {P : Program}

theorem sim_none {e : Emb} {w : World} (he : ∀ b l, glOf P b = some l → e b = some l) (hd : ∀ b l, e b = some l → b < 4098) : Sim (CC P) w.heap.size e ⟨4098, .e⟩ w := by
  have hno : ∀ b x, (⟨4098, .e⟩ : H).get b = some x → False := fun b x hb => by simp [H.get, Tr.get] at hb
  exact ⟨fun b x hb => (hno b x hb).elim, fun b _ x _ _ _ hb => (hno b x hb).elim, hd, Nat.le_refl _, he, .no hno⟩
theorem ro_none : Ro (⟨4098, .e⟩ : H) := fun b x hb => by simp [H.get, Tr.get] at hb
theorem Sim.setRo {B : Nat} {e : Emb} {h : H} {w : World} (s : Sim (CC P) B e h w) (hro : Ro h) {g k : Nat} (hgl : glOf P g = some ⟨g, 0, k, 1⟩) (hk : 0 < k) {row : List V} (hrl : row.length = k) (hlt : g < w.heap.size)
    (hcell : ∀ j v, row[j]? = some v → ∃ u, w.cell? ⟨g, j, none⟩ = some u ∧ VR e v u ∧ V.flat v = true) (hsz : 1 < k → ∃ cs el fz, w.heap[g]? = some (.cells cs el fz) ∧ cs.size = k) :
    Sim (CC P) B e (h.set g (.rows k [row] true)) w ∧ Ro (h.set g (.rows k [row] true)) := by
  have heg : e g = some ⟨g, 0, k, 1⟩ := s.gl g _ hgl
  have hro' : Ro (h.set g (.rows k [row] true)) := fun b x hb => by
    rw [H.get_set] at hb
    split at hb
    · cases hb; rfl
    · exact hro b x hb
  refine ⟨⟨fun b x hb => ?_, fun b b' x x' l l' hb hb' ho => ?_, s.dom, s.low, s.gl, fun b l x hl hb => ?_⟩, hro'⟩
  · rw [H.get_set] at hb
    split at hb
    · rename_i he
      subst he; cases hb
      refine ⟨_, heg, ⟨⟨rfl, hk, fun h => by cases h⟩, fun r row' hr => ?_⟩, hlt, fun h => by cases h⟩
      cases r with
      | succ r => simp at hr
      | zero =>
        simp at hr; subst hr
        refine ⟨hrl, fun j v hj => ?_⟩
        obtain ⟨u, hu, hv, hf⟩ := hcell j v hj
        refine ⟨u, ?_, ⟨hv, hf⟩, fun h => by cases h⟩
        simp only [cellAt, Nat.zero_mul, Nat.zero_add, Nat.add_zero]
        exact hu
    · exact s.blk b x hb
  · exact absurd ho (by rw [hro' b x hb]; simp)
  · rw [H.get_set] at hb
    split at hb
    · rename_i he
      subst he; cases hb
      rw [show (CC P).gl b = glOf P b from rfl, hgl] at hl; cases hl
      exact ⟨rfl, fun k' row' hr hk' => by cases hr; exact hsz hk'⟩
    · exact s.tab b l x hl hb

/-- The heap holds an interface value as block G. -/
def hasIf (G : Nat) (h : H) : Bool :=
  match h.get G with
  | some (.rows 1 [[.ifc _ _]] true) => decide (G < h.nx)
  | _ => false
theorem hasIf_some {G : Nat} {h : H} (hh : hasIf G h = true) : ∃ t v, h.get G = some (.rows 1 [[.ifc t v]] true) ∧ G < h.nx := by
  unfold hasIf at hh
  split at hh
  · rename_i t v e; exact ⟨t, v, e, of_decide_eq_true hh⟩
  · cases hh
theorem hasIf_of {G t : Nat} {v : V} {h : H} (hh : h.get G = some (.rows 1 [[.ifc t v]] true)) (hn : G < h.nx) : hasIf G h = true := by
  unfold hasIf; rw [hh]; simp [hn]
theorem cell_if {G : Nat} (hgl : glOf P G = some ⟨G, 0, 1, 1⟩) {B : Nat} {e : Emb} {h : H} {w : World} (s : Sim (CC P) B e h w) (hh : hasIf G h = true) : ∃ te pe, w.cell? ⟨G, 0, none⟩ = some (.iface te pe) := by
  obtain ⟨t, v, hb, _⟩ := hasIf_some hh
  obtain ⟨l, hl, hR, _⟩ := s.blk G _ hb
  have h1 : e G = some ⟨G, 0, 1, 1⟩ := s.gl G _ hgl
  rw [h1] at hl; cases hl
  obtain ⟨_, hrow⟩ := hR
  obtain ⟨_, hc⟩ := hrow 0 _ rfl
  obtain ⟨u, hu, hcr, _⟩ := hc 0 _ rfl
  have hv := hcr.1
  cases hv with
  | ifc _ _ w' h' => exact ⟨t, w', hu⟩
/-- The library's table and the two errors of its numbers. -/
def hasE (T G1 G2 : Nat) (h : H) : Bool := hasT T h && (hasIf G1 h && hasIf G2 h)
theorem hasE_ok {T G1 G2 : Nat} (h1 : T < 4096) (h2 : G1 < 4096) (h3 : G2 < 4096) : Eok (hasE T G1 G2) := by
  intro h g hn hg hh
  unfold hasE at hh ⊢
  simp only [Bool.and_eq_true] at hh ⊢
  obtain ⟨a, b, c⟩ := hh
  obtain ⟨a1, a2⟩ := hasT_some a
  obtain ⟨_, _, b1, b2⟩ := hasIf_some b
  obtain ⟨_, _, c1, c2⟩ := hasIf_some c
  exact ⟨hasT_of (by rw [hg T h1]; exact a1) (by omega), hasIf_of (by rw [hg G1 h2]; exact b1) (by omega), hasIf_of (by rw [hg G2 h3]; exact c1) (by omega)⟩
theorem parseIntB_range {l : List UInt8} {v : Int} (h : Go.Lib.parseIntB 64 l = .ok v) : -9223372036854775808 ≤ v ∧ v ≤ 9223372036854775807 := by
  unfold Go.Lib.parseIntB at h
  cases l with
  | nil => cases h
  | cons c r =>
    simp only at h
    generalize Go.Lib.parseUintB 64 _ = o at h
    cases o with
    | «syntax» => cases h
    | range => cases h
    | ok u =>
      simp only at h
      split at h
      · cases h
      · rename_i h1
        split at h
        · cases h
        · rename_i h2
          by_cases hn : c.toNat = 45
          · simp only [hn, if_true, not_true_eq_false, false_and, not_false_eq_true, true_and] at h h1 h2
            cases h
            omega
          · simp only [hn, if_false, not_false_eq_true, true_and] at h h1 h2
            cases h
            omega
theorem lt_of_cell {w : World} {g j : Nat} {u : Value} (h : w.cell? ⟨g, j, none⟩ = some u) : g < w.heap.size := by
  rcases Nat.lt_or_ge g w.heap.size with h1 | h1
  · exact h1
  · simp [World.cell?, Array.getElem?_eq_none h1] at h
/-- A pointer that is no spot of a text, by itself or as all that a struct is. -/
def PtrV (p : Value) : Prop := ∃ b o, p = .pointer (some ⟨b, o, none⟩) ∨ p = .agg #[.pointer (some ⟨b, o, none⟩)]
def hGE (G : Nat) (m : Int) (T ga gb : Nat) (A B : V) : H := ((((⟨4098, .e⟩ : H).set G (.rows 1 [[.i .i64 m]] true)).set T (.rows 20 [powRow] true)).set ga (.rows 1 [[A]] true)).set gb (.rows 1 [[B]] true)
theorem sim_GE {G T ga gb : Nat} (hgl : glOf P G = some ⟨G, 0, 1, 1⟩) (hglT : glOf P T = some ⟨T, 0, 20, 1⟩) (hgla : glOf P ga = some ⟨ga, 0, 1, 1⟩) (hglb : glOf P gb = some ⟨gb, 0, 1, 1⟩) {name : String} (hname : P.globalNamed name = some T)
    {w : World} {m : Int} (hc : w.cell? ⟨G, 0, none⟩ = some (.int .i64 m)) (ht : Go.Lib.TabIs P w name .u64 Go.Lib.pow10Tab) {ta tb : Nat} {pa pb : Value} (hca : w.cell? ⟨ga, 0, none⟩ = some (.iface ta pa)) (hcb : w.cell? ⟨gb, 0, none⟩ = some (.iface tb pb)) (hpa : PtrV pa) (hpb : PtrV pb) :
    ∃ e va vb, Sim (CC P) w.heap.size e (hGE G m T ga gb (.ifc ta va) (.ifc tb vb)) w ∧ Ro (hGE G m T ga gb (.ifc ta va) (.ifc tb vb)) := by
  obtain ⟨ba, oa, hpa⟩ := hpa
  obtain ⟨bb, ob, hpb⟩ := hpb
  have he : ∀ b l, glOf P b = some l → (fun i => if i = 4096 then some (⟨ba, oa, 1, 1⟩ : Loc) else if i = 4097 then some ⟨bb, ob, 1, 1⟩ else glOf P i) b = some l := fun b l hb => by
    have n0 := glOf_lt hb
    have n1 : b ≠ 4096 := by omega
    have n2 : b ≠ 4097 := by omega
    simp only [if_neg n1, if_neg n2]; exact hb
  have hd : ∀ b l, (fun i => if i = 4096 then some (⟨ba, oa, 1, 1⟩ : Loc) else if i = 4097 then some ⟨bb, ob, 1, 1⟩ else glOf P i) b = some l → b < 4098 := fun b l hb => by
    simp only at hb
    split at hb
    · omega
    · split at hb
      · omega
      · have := glOf_lt hb; omega
  generalize hee : (fun i => if i = 4096 then some (⟨ba, oa, 1, 1⟩ : Loc) else if i = 4097 then some ⟨bb, ob, 1, 1⟩ else glOf P i) = e at he hd
  have e6 : e 4096 = some ⟨ba, oa, 1, 1⟩ := by rw [← hee]; rfl
  have e7 : e 4097 = some ⟨bb, ob, 1, 1⟩ := by rw [← hee]; rfl
  have va : ∃ va, VR e (.ifc ta va) (.iface ta pa) := by
    have hp : VR e (.p (some (4096, 0, 0))) (.pointer (some ⟨ba, oa, none⟩)) := by
      have := VR.p (e := e) 4096 0 0 _ e6
      simpa using this
    rcases hpa with rfl | rfl
    · exact ⟨_, .ifc _ _ _ hp⟩
    · exact ⟨_, .ifc _ _ _ (.agg _ _ (.cons _ _ _ _ hp .nil))⟩
  have vb : ∃ vb, VR e (.ifc tb vb) (.iface tb pb) := by
    have hp : VR e (.p (some (4097, 0, 0))) (.pointer (some ⟨bb, ob, none⟩)) := by
      have := VR.p (e := e) 4097 0 0 _ e7
      simpa using this
    rcases hpb with rfl | rfl
    · exact ⟨_, .ifc _ _ _ hp⟩
    · exact ⟨_, .ifc _ _ _ (.agg _ _ (.cons _ _ _ _ hp .nil))⟩
  obtain ⟨va, hva⟩ := va
  obtain ⟨vb, hvb⟩ := vb
  have one : ∀ {g : Nat} {v : V} {u : Value}, w.cell? ⟨g, 0, none⟩ = some u → VR e v u → V.flat v = true → ∀ j v', ([v] : List V)[j]? = some v' → ∃ u, w.cell? ⟨g, j, none⟩ = some u ∧ VR e v' u ∧ V.flat v' = true := by
    intro g v u h1 h2 h3 j v' hj
    cases j with
    | zero => simp at hj; subst hj; exact ⟨u, h1, h2, h3⟩
    | succ j => simp at hj
  refine ⟨e, va, vb, ?_⟩
  obtain ⟨s1, r1⟩ := (sim_none (w := w) he hd).setRo ro_none hgl Nat.one_pos (row := [.i .i64 m]) rfl (lt_of_cell hc) (one hc (.i _ _) rfl) (fun h => absurd h (by decide))
  unfold Go.Lib.TabIs World.var? at ht
  rw [hname, Option.bind_some] at ht
  obtain ⟨cs, el, fz, hobj, hcs⟩ : ∃ cs el fz, w.heap[T]? = some (.cells cs el fz) ∧ cs = (Go.Lib.pow10Tab.map fun z => Value.int .u64 z).toArray := by
    split at ht
    · rename_i cs el fz hobj
      exact ⟨cs, el, fz, hobj, Option.some.inj ht⟩
    · cases ht
  have hTlt : T < w.heap.size := (Array.getElem?_eq_some_iff.1 hobj).1
  have hsz : cs.size = 20 := by rw [hcs]; simp [Go.Lib.pow10Tab_length]
  obtain ⟨s2, r2⟩ := s1.setRo r1 hglT (by decide) (row := powRow) powRow_len hTlt (fun j v hj => by
    have hj20 : j < 20 := by have := (List.getElem?_eq_some_iff.1 hj).1; rw [powRow_len] at this; exact this
    have hpl : j < Go.Lib.pow10Tab.length := by rw [Go.Lib.pow10Tab_length]; exact hj20
    rw [powRow, List.getElem?_map, List.getElem?_eq_getElem hpl] at hj
    simp at hj; subst hj
    refine ⟨.int .u64 (Go.Lib.pow10Tab[j]), ?_, .i _ _, rfl⟩
    simp only [World.cell?, hobj]
    rw [hcs]
    simp [hpl]) (fun _ => ⟨cs, el, fz, hobj, hsz⟩)
  obtain ⟨s3, r3⟩ := s2.setRo r2 hgla Nat.one_pos (row := [.ifc ta va]) rfl (lt_of_cell hca) (one hca hva rfl) (fun h => absurd h (by decide))
  exact s3.setRo r3 hglb Nat.one_pos (row := [.ifc tb vb]) rfl (lt_of_cell hcb) (one hcb hvb rfl) (fun h => absurd h (by decide))
end Am
/- From the row's list to the errors' variables. -/
namespace Am
set_option linter.unusedVariables false
set_option linter.unusedSimpArgs false
open Go (IntKind Value Program TypeId World DataW MemPlace)
variable {P : Program}

theorem trod_lit {H : Type} {enc : TypeId × Value → H} {w : World} {base : Nat} {sp : Nat → Bool} {held : Bool} {n : Nat} {t : TypeId} {l : Go.Lit} {q : List MemPlace} : ¬ DataW.trod enc P w base sp held n t [] = some (.lit l, q) := by
  intro h
  cases n with
  | zero => simp [DataW.trod] at h
  | succ n =>
    unfold DataW.trod at h
    split at h <;> simp_all
theorem mapM_head {α H : Type} {f : α → Option (DataW H × List MemPlace)} {l : List α} {xs : List (DataW H × List MemPlace)} {x : DataW H} {ds : List (DataW H)} (h : l.mapM f = some xs) (hx : xs.map (fun x => x.fst) = x :: ds) : ∃ a q, f a = some (x, q) := by
  cases xs with
  | nil => simp at hx
  | cons y ys =>
    have hl := Go.Lib.mapM_length h
    cases l with
    | nil => simp at hl
    | cons a r =>
      obtain ⟨b, h1, h2⟩ := Go.Lib.mapM_at h 0 a rfl
      simp at h1 hx
      obtain ⟨hx1, _⟩ := hx
      subst h1
      exact ⟨a, y.2, by rw [h2, ← hx1]⟩
theorem trod_agg {H : Type} {enc : TypeId × Value → H} {w : World} {base : Nat} {sp : Nat → Bool} {held : Bool} {n : Nat} {t : TypeId} {l : Go.Lit} {ds : List (DataW H)} {q : List MemPlace} : ¬ DataW.trod enc P w base sp held n t [] = some (.agg (.lit l :: ds), q) := by
  intro h
  cases n with
  | zero => simp [DataW.trod] at h
  | succ n =>
    unfold DataW.trod at h
    split at h <;> try (simp_all; done)
    · split at h
      · obtain ⟨xs, h1, h2⟩ := Option.map_eq_some_iff.1 h
        simp only [Prod.mk.injEq, DataW.agg.injEq] at h2
        obtain ⟨a, q', h3⟩ := mapM_head h1 h2.1
        simp only [List.drop_nil, List.take_nil] at h3
        exact trod_lit h3
      · cases h
    · split at h
      · obtain ⟨xs, h1, h2⟩ := Option.map_eq_some_iff.1 h
        simp only [Prod.mk.injEq, DataW.agg.injEq] at h2
        obtain ⟨a, q', h3⟩ := mapM_head h1 h2.1
        simp only [List.drop_nil, List.take_nil] at h3
        exact trod_lit h3
      · cases h
/-- A pointer to something that holds a text is no spot. -/
theorem trod_ptr {H : Type} {enc : TypeId × Value → H} {w : World} {base : Nat} {sp : Nat → Bool} {held : Bool} {n : Nat} {t : TypeId} {v : Value} {l : Go.Lit} {ds : List (DataW H)} {q : List MemPlace} (h : DataW.trod enc P w base sp held n t v.cells.toList = some (.ptr (.agg (.lit l :: ds)), q)) : PtrV v := by
  cases n with
  | zero => simp [DataW.trod] at h
  | succ n =>
    generalize hcs : v.cells.toList = cs at h
    unfold DataW.trod at h
    split at h <;> try (simp_all; done)
    · rename_i e a hu
      obtain ⟨x, h1, h2⟩ := Option.map_eq_some_iff.1 h
      simp only [Prod.mk.injEq, DataW.ptr.injEq] at h2
      obtain ⟨cs', h3, h4⟩ := Option.bind_eq_some_iff.1 h1
      obtain ⟨x1, x2⟩ := x
      simp only at h2
      rw [h2.1] at h4
      unfold World.cells? at h3
      split at h3
      · have hl := Go.Lib.mapM_length h3
        cases cs' with
        | nil => exact absurd h4 trod_agg
        | cons c0 cr =>
          rw [List.length_range, List.length_cons] at hl
          obtain ⟨b, _, hb⟩ := Go.Lib.mapM_at h3 0 0 (by rw [List.getElem?_range (by omega)])
          have ha : a.add 0 = a := by unfold Go.Addr.add; rw [if_pos rfl]
          rw [ha] at hb
          obtain ⟨blk, off, spot⟩ := a
          have hsp : spot = none := by
            unfold World.cell? at hb
            split at hb
            · cases spot with
              | none => rfl
              | some s => simp at hb
            · cases hb
          subst hsp
          refine ⟨blk, off, ?_⟩
          have hcs' : v.cells = #[.pointer (some ⟨blk, off, none⟩)] := by
            rw [← Array.toList_inj, hcs]
          cases v with
          | agg vs => exact .inr (by rw [show (Value.agg vs).cells = vs from rfl] at hcs'; rw [hcs'])
          | pointer a0 => exact .inl (by simp [Value.cells] at hcs'; rw [hcs'])
          | _ => exact absurd hcs' (by simp [Value.cells])
      · cases h3
    · simp only at h
      split at h
      · obtain ⟨el, _, h⟩ := Option.bind_eq_some_iff.1 h
        obtain ⟨r, _, h⟩ := Option.map_eq_some_iff.1 h
        simp at h
      · cases h
    · split at h
      · simp at h
      · obtain ⟨x, _, h⟩ := Option.map_eq_some_iff.1 h
        simp at h
      · cases h
    · split at h
      · split at h
        · obtain ⟨el, _, h⟩ := Option.bind_eq_some_iff.1 h
          simp only at h
          split at h
          · simp at h
          · cases h
        · cases h
      · cases h
/-- What the list says of an error's variable. -/
theorem iface_at {w : World} {name nm : String} {l : Go.Lit} {ds : List (DataW Unit)} {g : Nat} {t : TypeId} (hg : P.globalNamed name = some g) (hty : (P.globals[g]?).map (·.type) = some t) (ht : ∃ ms, P.underlying t = some (.interface ms)) :
    ∀ {laid : List (String × DataW Unit)} {ps : List MemPlace}, DataW.LaidVars P w laid ps → (name, DataW.iface nm (.ptr (.agg (.lit l :: ds)))) ∈ laid → ∃ te pe, w.cell? ⟨g, 0, none⟩ = some (.iface te pe) ∧ PtrV pe
  | [], _, _, hm => by cases hm
  | (n0, d) :: r, ps, h, hm => by
    obtain ⟨g', t', cs, fuel, p, q, hg', ht', hvar, hd, hr, _⟩ := h
    rcases List.mem_cons.1 hm with hm | hm
    · cases hm
      obtain rfl := Option.some.inj (hg.symm.trans hg')
      obtain rfl := Option.some.inj (hty.symm.trans ht')
      obtain ⟨ms, ht⟩ := ht
      cases fuel with
      | zero => simp [DataW.trod] at hd
      | succ fuel =>
        unfold DataW.trod at hd
        rw [ht] at hd
        split at hd <;> try (simp_all; done)
        rename_i ms' u v _ hu
        split at hd
        · simp at hd
        · rename_i name' _
          obtain ⟨x, h1, h2⟩ := Option.map_eq_some_iff.1 hd
          obtain ⟨x1, x2⟩ := x
          simp at h2
          obtain ⟨⟨_, rfl⟩, _⟩ := h2
          refine ⟨u, v, ?_, trod_ptr h1⟩
          rw [World.var?_cell hg hvar 0, ← Array.getElem?_toList]
          rw [hu]; rfl
        · simp at hd
    · exact iface_at hg hty ht hr hm
end Am
