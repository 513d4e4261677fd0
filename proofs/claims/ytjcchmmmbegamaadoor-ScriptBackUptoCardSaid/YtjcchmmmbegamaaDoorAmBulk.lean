/- AmBulk: data laid, and how great they are. -/
import Derived.Test.YtjcchmmmbegamaaDoorAmIndex
namespace Am
set_option linter.unusedVariables false
set_option linter.unusedSimpArgs false
open Go (IntKind BinOp UnOp Value Program TypeId TypeDesc Operand Oper Code Tmp World Addr Obj Act Fence DataW MemPlace Lit)
mutual
def Dt.bulk : Dt → Nat
  | .s l => l.length + 1
  | .st xs => Dt.bulkL xs + 1
  | .sl _ xs => Dt.bulkL xs + 1
  | .bs l => l.length + 1
  | .b _ => 1
  | .i _ _ => 1
  | .nl => 1
def Dt.bulkL : List Dt → Nat
  | [] => 0
  | x :: xs => x.bulk + Dt.bulkL xs
end
/-- How great a reading is: what is asked of such a count. -/
structure Bulk (H : Type) where
  B : DataW H → Nat
  BA : List (DataW H) → Nat
  one : ∀ d, 1 ≤ B d
  str : ∀ bs, bs.length + 1 ≤ B (.lit (.string bs))
  slice : ∀ es sp, BA es + 1 ≤ B (.slice es sp)
  agg : ∀ ps, BA ps + 1 ≤ B (.agg ps)
  cons : ∀ d r, B d + BA r ≤ BA (d :: r)
theorem Bulk.count {H : Type} (K : Bulk H) : ∀ ds : List (DataW H), ds.length ≤ K.BA ds
  | [] => Nat.zero_le _
  | d :: r => by
    have h1 := K.one d
    have h2 := K.cons d r
    have h3 := K.count r
    simp only [List.length_cons]; omega
theorem Bulk.pointwise {H : Type} (K : Bulk H) : ∀ {xs : List Dt} {ds : List (DataW H)}, xs.length = ds.length → (∀ (j : Nat) x d, xs[j]? = some x → ds[j]? = some d → Dt.bulk x ≤ K.B d) → Dt.bulkL xs ≤ K.BA ds
  | [], _, _, _ => Nat.zero_le _
  | x :: xs, [], h, _ => by simp at h
  | x :: xs, d :: ds, h, hp => by
    have h1 := hp 0 x d rfl rfl
    have h2 := K.pointwise (xs := xs) (ds := ds) (by simpa using h) fun j y e hy he => hp (j + 1) y e (by simpa using hy) (by simpa using he)
    have h3 := K.cons d ds
    simp only [Dt.bulkL]; omega
variable {P : Program} {C : Cx} {B : Nat} {e : Emb} {h : H} {w : World}
theorem laid_piecesB {H : Type} (K : Bulk H) {w : World} {g : TypeId → Option Ty} {f : TypeId → List Value → Option (DataW H × List MemPlace)}
    (hg : ∀ t ty cs d, g t = some ty → f t cs = some d → ∃ x, Dt.has ty x ∧ cs.length = ty.size ∧ Laid w x cs ∧ Dt.bulk x ≤ K.B d.1) :
    ∀ (fds : List Go.Field) (off : Nat) (ts : List Ty) (cs : List Value) (ds : List (DataW H × List MemPlace)), tysAt g P off fds = some ts → (fds.mapM fun fd => f fd.type ((cs.drop fd.offset).take (P.cellsOf fd.type))) = some ds →
      ∃ (xs : List Dt) (css : List (List Value)), Dt.hasL ts xs ∧ xs.length = css.length ∧ css.flatten = (cs.drop off).take (Ty.sizes ts) ∧ (∀ (j : Nat) x c, xs[j]? = some x → css[j]? = some c → Laid w x c) ∧ Dt.bulkL xs ≤ K.BA (ds.map (·.1))
  | [], off, ts, cs, ds, h1, h2 => by
    simp [tysAt] at h1; subst h1
    exact ⟨[], [], by simp [Dt.hasL], rfl, by simp [Ty.sizes], (fun j x c hj => by simp at hj), Nat.zero_le _⟩
  | fd :: fds, off, ts, cs, ds, h1, h2 => by
    unfold tysAt at h1
    split at h1
    · rename_i hoff
      obtain ⟨ty, hty, h1⟩ := Option.bind_eq_some_iff.1 h1
      split at h1
      · rename_i hsz
        obtain ⟨ts', hts, rfl⟩ := Option.map_eq_some_iff.1 h1
        rw [List.mapM_cons] at h2
        simp only [Option.bind_eq_bind, Option.pure_def] at h2
        obtain ⟨d, hd, h2⟩ := Option.bind_eq_some_iff.1 h2
        obtain ⟨ds', hds, he⟩ := Option.bind_eq_some_iff.1 h2
        cases he
        obtain ⟨x, hx, hlen, hlay, hbk⟩ := hg _ _ _ _ hty hd
        obtain ⟨xs, css, a1, a2, a3, a4, a5⟩ := laid_piecesB K hg fds (off + ty.size) ts' cs ds' hts hds
        refine ⟨x :: xs, ((cs.drop fd.offset).take (P.cellsOf fd.type)) :: css, by simp only [Dt.hasL]; exact ⟨hx, a1⟩, by simp [a2], ?_, (fun j y c hj hc => ?_), ?_⟩
        · rw [List.flatten_cons, a3, hoff, ← hsz, Ty.sizes, List.take_add, List.drop_drop]
        · cases j with
          | zero => simp at hj hc; subst hj; subst hc; exact hlay
          | succ j => exact a4 j y c (by simpa using hj) (by simpa using hc)
        · have := K.cons d.1 (ds'.map (·.1))
          simp only [List.map_cons, Dt.bulkL]
          omega
      · cases h1
    · cases h1

theorem trod_layB {H : Type} (K : Bulk H) {enc : TypeId × Value → H} {w : World} : ∀ (fuel n : Nat) (t : TypeId) (ty : Ty) (cs : List Value) (d : DataW H × List MemPlace), tyOf P n t = some ty → DataW.trod enc P w 0 (fun _ => true) true fuel t cs = some d →
    ∃ x, Dt.has ty x ∧ cs.length = ty.size ∧ Laid w x cs ∧ Dt.bulk x ≤ K.B d.1
  | 0, n, t, ty, cs, d, _, h => by simp [DataW.trod] at h
  | fuel + 1, 0, t, ty, cs, d, ht, _ => by simp [tyOf] at ht
  | fuel + 1, n + 1, t, ty, cs, d, ht, h => by
    have ih := fun n t ty cs d => trod_layB K (enc := enc) (w := w) fuel n t ty cs d
    unfold tyOf at ht
    unfold DataW.trod at h
    split at ht
    · rename_i hd
      cases ht
      rw [hd] at h
      split at h <;> first | (cases h; done) | (rename_i hx; cases hx; done) | skip
      exact ⟨.b _, by simp [Dt.has], rfl, laid_flat (fun h => rfl) (fun e => .cons _ _ _ _ (.b _) .nil) (by simp [V.flat]), K.one _⟩
    · rename_i k hd
      cases ht
      rw [hd] at h
      split at h <;> first | (cases h; done) | (rename_i hx; cases hx; done) | skip
      rename_i k1 k2 m hx
      cases hx
      split at h
      · rename_i hw
        obtain ⟨rfl, hw⟩ := hw
        simp only [Lit.wf, Bool.and_eq_true, decide_eq_true_eq] at hw
        exact ⟨.i _ _, by simp only [Dt.has]; exact ⟨trivial, hw⟩, rfl, laid_flat (fun h => rfl) (fun e => .cons _ _ _ _ (.i _ _) .nil) (by simp [V.flat]), by cases h; exact K.one _⟩
      · cases h
    · rename_i hd
      cases ht
      rw [hd] at h
      split at h <;> first | (cases h; done) | (rename_i hx; cases hx; done) | skip
      rename_i str hx
      split at h
      · rename_i hw
        exact ⟨.s str.data.toList, by simp only [Dt.has]; exact hw, rfl, laid_flat (fun h => rfl) (fun e => .cons _ _ _ _ (.s _) .nil) (by simp [V.flat]), by cases h; exact K.str _⟩
      · cases h
    · rename_i el hd
      rw [hd] at h
      have hnil : ∀ ty', (ty' = .bs ∨ ∃ k e, ty' = .sl k e) → ∃ x, Dt.has ty' x ∧ [Value.slice none 0 0].length = ty'.size ∧ Laid w x [Value.slice none 0 0] ∧ Dt.bulk x ≤ K.B d.1 := by
        rintro ty' (rfl | ⟨k, e, rfl⟩)
        · exact ⟨.nl, by simp [Dt.has], rfl, laid_flat (fun h => rfl) (fun e => .cons _ _ _ _ (.sl0 _) .nil) (by simp [V.flat]), K.one _⟩
        · exact ⟨.nl, by simp [Dt.has], rfl, laid_flat (fun h => rfl) (fun e => .cons _ _ _ _ (.sl0 _) .nil) (by simp [V.flat]), K.one _⟩
      split at h <;> first | (cases h; done) | (rename_i hx; cases hx; done) | skip
      · rename_i e1 hx
        refine hnil ty ?_
        split at ht
        · split at ht
          · cases ht; exact .inl rfl
          · cases ht
        · obtain ⟨ty1, _, ht⟩ := Option.bind_eq_some_iff.1 ht
          split at ht
          · cases ht; exact .inr ⟨_, _, rfl⟩
          · cases ht
      · rename_i e1 a len cap hx
        cases hx
        simp only at h
        split at h
        · rename_i hc
          obtain ⟨_, hlc, hcap⟩ := hc
          obtain ⟨elems, hel, h⟩ := Option.bind_eq_some_iff.1 h
          simp only [if_true] at h
          obtain ⟨rest, hre, hde⟩ := Option.map_eq_some_iff.1 h
          subst hde
          have hE := elems_get hel
          have hell := (mapM_get hel).1
          rw [List.length_range] at hell
          have hslice := K.slice (elems.map (·.1)) (rest.map (·.1))
          have hcount := K.count (elems.map (·.1))
          rw [List.length_map, hell] at hcount
          have hspot : 0 < P.cellsOf el → cap ≠ 0 → a.spot = none := by
            intro hk hc0
            by_cases hl0 : len = 0
            · subst hl0
              obtain ⟨_, h2⟩ := mapM_get hre
              obtain ⟨y, _, hy⟩ := h2 0 0 (by rw [List.getElem?_range (by omega)])
              obtain ⟨cs, h3, _⟩ := Option.bind_eq_some_iff.1 hy
              have := cells_spot hk h3
              unfold Go.Addr.add at this
              simpa using this
            · obtain ⟨cs, _, h3, _⟩ := hE 0 (by omega)
              have := cells_spot hk h3
              unfold Go.Addr.add at this
              simpa using this
          split at ht
          · rename_i hb
            split at ht
            · rename_i hk1
              cases ht
              obtain ⟨l, hl, hlp⟩ := list_of (n := len) (p := fun j (c : UInt8) => w.cell? ⟨a.block, a.off + j, none⟩ = some (.int .u8 c.toNat)) fun j hj => by
                obtain ⟨cs, d', h3, h4⟩ := hE j hj
                obtain ⟨h5, h6⟩ := cells_get h3
                cases fuel with
                | zero => simp [DataW.trod] at h4
                | succ fuel =>
                  unfold DataW.trod at h4
                  rw [hb] at h4
                  split at h4 <;> first | (cases h4; done) | (rename_i hx; cases hx; done) | skip
                  rename_i k1 k2 m hx
                  cases hx
                  split at h4
                  · rename_i hw
                    obtain ⟨rfl, hw⟩ := hw
                    simp only [Lit.wf, Bool.and_eq_true, decide_eq_true_eq, IntKind.min, IntKind.max, IntKind.signed, IntKind.bits] at hw
                    have hc := h6 0 _ rfl
                    rw [add_block.1, add_block.2, hk1] at hc
                    refine ⟨UInt8.ofNat m.toNat, ?_⟩
                    have hm : ((UInt8.ofNat m.toNat).toNat : Int) = m := by
                      simp at hw ⊢
                      omega
                    rw [hm]
                    simpa using hc
                  · cases h4
              subst hl
              refine ⟨.bs l, by simp only [Dt.has]; omega, rfl, laid_bs hlp hlc (hspot (by omega)), ?_⟩
              show l.length + 1 ≤ _
              exact Nat.le_trans (Nat.succ_le_succ hcount) hslice
            · cases ht
          · obtain ⟨ty1, hty1, ht⟩ := Option.bind_eq_some_iff.1 ht
            split at ht
            · rename_i hsz
              cases ht
              obtain ⟨cd, hcd, hcp⟩ := list_of (n := len) (p := fun j (q : List Value × Dt) => (∀ (i : Nat) v, q.1[i]? = some v → w.cell? ⟨a.block, a.off + j * ty1.size + i, none⟩ = some v) ∧ q.1.length = ty1.size ∧ Dt.has ty1 q.2 ∧ Laid w q.2 q.1 ∧ ∃ d', elems[j]? = some d' ∧ Dt.bulk q.2 ≤ K.B d'.1) fun j hj => by
                obtain ⟨y, hy0, hy⟩ := (mapM_get hel).2 j j (by rw [List.getElem?_range (by omega)])
                obtain ⟨cs, h3, h4⟩ := Option.bind_eq_some_iff.1 hy
                obtain ⟨h5, h6⟩ := cells_get h3
                obtain ⟨x, hx, hlen, hlay, hbk⟩ := ih _ _ _ _ _ hty1 h4
                refine ⟨(cs, x), fun i v hi => ?_, hlen, hx, hlay, y, hy0, hbk⟩
                have := h6 i v hi
                rw [add_block.1, add_block.2, ← hsz.1] at this
                exact this
              have e1 : (cd.map (·.2)).length = len := by simp [hcd]
              have hA : Dt.hasA ty1 (cd.map (·.2)) := hasA_of fun j x hj => by
                rw [List.getElem?_map] at hj
                obtain ⟨q, hq, rfl⟩ := Option.map_eq_some_iff.1 hj
                exact (hcp j q hq).2.2.1
              refine ⟨.sl ty1.size (cd.map (·.2)), by simp only [Dt.has]; exact ⟨trivial, by rw [e1]; omega, hA⟩, rfl, ?_, ?_⟩
              · have := laid_sl (w := w) hsz.2 (xs := cd.map (·.2)) (css := cd.map (·.1)) (a := a) (cap := cap) (by simp) (fun cs hcs => ?_) (fun j x cs hj hc => ?_) (fun j cs hc => ?_) (by rw [e1]; exact hlc) (hspot (by omega))
                · rw [e1] at this; exact this
                · obtain ⟨q, hq, rfl⟩ := List.mem_map.1 hcs
                  obtain ⟨j, hj⟩ := List.getElem?_of_mem hq
                  exact (hcp j q hj).2.1
                · rw [List.getElem?_map] at hj hc
                  obtain ⟨q, hq, rfl⟩ := Option.map_eq_some_iff.1 hj
                  rw [hq] at hc; simp at hc; subst hc
                  exact (hcp j q hq).2.2.2.1
                · rw [List.getElem?_map] at hc
                  obtain ⟨q, hq, rfl⟩ := Option.map_eq_some_iff.1 hc
                  exact (hcp j q hq).1
              · show Dt.bulkL _ + 1 ≤ _
                refine Nat.le_trans (Nat.succ_le_succ (K.pointwise (by simp [hcd, hell]) fun j x d hx hd => ?_)) hslice
                rw [List.getElem?_map] at hx hd
                obtain ⟨q, hq, rfl⟩ := Option.map_eq_some_iff.1 hx
                obtain ⟨d', hd', rfl⟩ := Option.map_eq_some_iff.1 hd
                obtain ⟨d2, h5, h6⟩ := (hcp j q hq).2.2.2.2
                rw [hd'] at h5; cases h5
                exact h6
            · cases ht
        · cases h
    · rename_i fs hd
      rw [hd] at h
      obtain ⟨ts, hts, ht⟩ := Option.bind_eq_some_iff.1 ht
      split at ht
      · rename_i hsz
        cases ht
        have nope : (∀ fs_1 : Array Go.Field, some (TypeDesc.struct fs) = some (TypeDesc.struct fs_1) → False) → False := fun h => h fs rfl
        split at h <;> first | (cases h; done) | (rename_i hx; cases hx; done) | (exact (nope ‹_›).elim) | skip
        rename_i cs1 fs' hx
        cases hx
        split at h
        · rename_i hlen
          obtain ⟨xs0, hxs0, hde⟩ := Option.map_eq_some_iff.1 h
          subst hde
          obtain ⟨xs, css, a1, a2, a3, a4, a5⟩ := laid_piecesB K (w := w) (g := tyOf P n) (f := DataW.trod enc P w 0 (fun _ => true) true fuel) (fun t ty cs d h1 h2 => ih n t ty cs d h1 h2) fs.toList 0 ts _ xs0 hts hxs0
          refine ⟨.st xs, by simp only [Dt.has]; exact a1, by rw [hlen, ← hsz, Ty.size], (fun C B e h s hr => ?_), Nat.le_trans (Nat.succ_le_succ a5) (K.agg _)⟩
          obtain ⟨e', b1, b2, b3, b4, b5⟩ := laid_L a2 a4 C B e h s hr
          refine ⟨e', b1, ?_, b3, b4, b5⟩
          rw [a3, List.drop_zero, hsz, ← hlen, List.take_length] at b2
          exact b2
        · cases h
      · cases ht
    · cases ht

theorem arg_laidB {HT : Type} (K : Bulk HT) {enc : TypeId × Value → HT} {w : World} {r : Go.Reach} {base n : Nat} {t : TypeId} {ty : Ty} {v : Value} {d : DataW HT} {p : List MemPlace} (ht : tyOf P n t = some ty) (hv : Value.okWide P w r base t v)
    (hd : DataW.Trod enc P w 0 (fun _ => true) true t v d p) : ∃ x, Dt.has ty x ∧ Dt.bulk x ≤ K.B d ∧ ∀ (C : Cx) (B : Nat) (e : Emb) (h : H), Sim C B e h w → Ro h → ∃ e', e.le e' ∧ VR e' (x.arg h).1 v ∧ Sim C B e' (x.arg h).2 w ∧ Ro (x.arg h).2 := by
  obtain ⟨fuel, hf⟩ := hd
  obtain ⟨x, hx, hlen, hlay, hbk⟩ := trod_layB K fuel n t ty _ _ ht hf
  refine ⟨x, hx, hbk, fun C B e h s hr => ?_⟩
  obtain ⟨e', le, hvr, s', r', _⟩ := hlay C B e h s hr
  rcases arg_shape ht hv with ⟨ts, rfl, cs, rfl⟩ | ⟨hne, hc⟩
  · cases x <;> simp only [Dt.has] at hx
    rename_i xs
    refine ⟨e', le, ?_, s', r'⟩
    exact .agg _ _ hvr
  · have h1 : v.cells.toList = [v] := by rw [hc]
    rw [h1] at hvr
    have key : ∀ u g, (x.lay h) = ([u], g) → (x.arg h) = (u, g) → ∃ e', e.le e' ∧ VR e' (x.arg h).1 v ∧ Sim C B e' (x.arg h).2 w ∧ Ro (x.arg h).2 := by
      intro u g e1 e2
      rw [e1] at hvr s' r'
      rw [e2]
      cases hvr with
      | cons _ _ _ _ a b => exact ⟨e', le, a, s', r'⟩
    cases x with
    | st xs =>
      cases ty <;> simp only [Dt.has] at hx
      exact absurd rfl (hne _)
    | b x => exact key _ _ rfl rfl
    | i k n => exact key _ _ rfl rfl
    | s l => exact key _ _ rfl rfl
    | nl => exact key _ _ rfl rfl
    | sl k xs => exact key _ _ rfl rfl
    | bs l => exact key _ _ rfl rfl

theorem args_laidB {HT : Type} (K : Bulk HT) {enc : TypeId × Value → HT} {w : World} {r : Go.Reach} {base n : Nat} : ∀ {ts : List TypeId} {tys : List Ty} {vs : List Value} {ds : List (DataW HT)} {ps : List MemPlace}, tysOf P n ts = some tys →
    (∀ (j : Nat) t v, ts[j]? = some t → vs[j]? = some v → Value.okWide P w r base t v) → DataW.TrodAll enc P w 0 (fun _ => true) true ts vs ds ps →
    ∃ xs, Dt.hasL tys xs ∧ Dt.bulkL xs ≤ K.BA ds ∧ ∀ (C : Cx) (B : Nat) (e : Emb) (h : H), Sim C B e h w → Ro h → ∃ e', e.le e' ∧ VRL e' (Dt.args xs h).1 vs ∧ Sim C B e' (Dt.args xs h).2 w ∧ Ro (Dt.args xs h).2
  | [], tys, [], [], ps, ht, hv, hd => by
    simp [tysOf] at ht; subst ht
    exact ⟨[], by simp [Dt.hasL], Nat.zero_le _, fun C B e h s hr => ⟨e, Emb.le_refl _, .nil, s, hr⟩⟩
  | [], tys, _ :: _, ds, ps, ht, hv, hd => by cases ds <;> simp [DataW.TrodAll] at hd
  | [], tys, [], _ :: _, ps, ht, hv, hd => by simp [DataW.TrodAll] at hd
  | t :: ts, tys, [], ds, ps, ht, hv, hd => by cases ds <;> simp [DataW.TrodAll] at hd
  | t :: ts, tys, v :: vs, [], ps, ht, hv, hd => by simp [DataW.TrodAll] at hd
  | t :: ts, tys, v :: vs, d :: ds, ps, ht, hv, hd => by
    unfold tysOf at ht
    obtain ⟨ty, hty, ht⟩ := Option.bind_eq_some_iff.1 ht
    obtain ⟨tys', htys, rfl⟩ := Option.map_eq_some_iff.1 ht
    simp only [DataW.TrodAll] at hd
    obtain ⟨p, q, hp, hq, _⟩ := hd
    obtain ⟨x, hx, hb1, hl⟩ := arg_laidB K hty (hv 0 t v rfl rfl) hp
    obtain ⟨xs, hxs, hb2, hls⟩ := args_laidB K htys (fun j t v h1 h2 => hv (j + 1) t v (by simpa using h1) (by simpa using h2)) hq
    refine ⟨x :: xs, by simp only [Dt.hasL]; exact ⟨hx, hxs⟩, by have := K.cons d ds; simp only [Dt.bulkL]; omega, fun C B e h s hr => ?_⟩
    obtain ⟨e1, le1, v1, s1, r1⟩ := hl C B e h s hr
    obtain ⟨e2, le2, v2, s2, r2⟩ := hls C B e1 _ s1 r1
    exact ⟨e2, Emb.le_trans le1 le2, .cons _ _ _ _ (v1.mono le2) v2, s2, r2⟩

end Am
