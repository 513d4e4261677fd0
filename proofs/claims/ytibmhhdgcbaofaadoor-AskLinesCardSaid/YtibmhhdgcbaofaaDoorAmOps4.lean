/- AmOps4: the operations, further: aggregates, slices made, maps, iterators, builtins. -/
import Derived.Test.YtibmhhdgcbaofaaDoorAmOps3
namespace Am
set_option linter.unusedVariables false
set_option linter.unusedSimpArgs false
open Go (IntKind BinOp UnOp Value Program TypeId TypeDesc Operand Oper Code Tmp World Addr Obj Act)

variable {P : Program} {C : Cx} {B : Nat} {e e' : Emb} {h h' : H} {w w' : World} {t : Tm} {ρ : Operand → Value} {o : Oper} {v : V}

/-! ### Filling -/
theorem VRL.splice {xs ys : List V} {us ws : List Value} (h1 : VRL e xs us) (h2 : VRL e ys ws) (i : Nat) : VRL e (splice xs i ys) (splice us i ws) := by
  unfold Am.splice
  rw [← h2.length]
  exact ((h1.take i).append h2).append (h1.drop _)

theorem setAll (cs : Array Value) (off : Nat) : ∀ (vs : List Value) (k : Nat), off + k + vs.length ≤ cs.size →
    ((vs.zipIdx k).foldl (fun (a : Array Value) (p : Value × Nat) => a.setIfInBounds (off + p.2) p.1) cs).toList = splice cs.toList (off + k) vs := by
  intro vs
  induction vs generalizing cs with
  | nil => intro k hk; simp [splice]
  | cons v vs ih =>
    intro k hk
    simp only [List.zipIdx_cons, List.foldl_cons]
    simp only [List.length_cons] at hk
    rw [ih _ (k + 1) (by simp; omega)]
    apply List.ext_getElem?
    intro q
    rw [splice_get _ _ _ _ (by simp; omega), splice_get _ _ _ _ (by simp; omega)]
    simp only [Array.toList_setIfInBounds, List.getElem?_set, List.length_cons, Array.length_toList]
    by_cases h1 : q < off + k
    · rw [if_pos (by omega), if_pos h1, if_neg (by omega)]
    · rw [if_neg h1]
      by_cases h2 : q = off + k
      · subst h2
        rw [if_pos (by omega), if_pos rfl, if_pos (by omega), if_pos (by omega)]
        simp
      · rw [if_neg (by omega)]
        by_cases h3 : q < off + k + (vs.length + 1)
        · rw [if_pos (by omega), if_pos (by omega)]
          have : q - (off + k) = (q - (off + (k + 1))) + 1 := by omega
          rw [this]; simp
        · rw [if_neg (by omega), if_neg (by omega), if_neg (by omega)]

theorem fill_sound {place : Nat → Option (Nat × Nat)} : ∀ {ps : List (Nat × Value)} {qs : List (Nat × Nat × V)} {z cs : List V} {us : Array Value}, VRL e z us.toList →
    qs.length = ps.length → (∀ (i : Nat) p q, ps[i]? = some p → qs[i]? = some q → place p.1 = some (q.1, q.2.1) ∧ VR e q.2.2 p.2) → fill z qs = some cs →
    ∃ ws, Go.Instr.fill place us ps = some ws ∧ VRL e cs ws.toList
  | [], qs, z, cs, us, hz, hl, hp, hf => by
    have : qs = [] := List.length_eq_zero_iff.1 hl
    subst this
    simp [fill] at hf; subst hf
    exact ⟨us, rfl, hz⟩
  | (i, u) :: ps, [], z, cs, us, hz, hl, hp, hf => by simp at hl
  | (i, u) :: ps, (off, n, x) :: qs, z, cs, us, hz, hl, hp, hf => by
    obtain ⟨hpl, hvr⟩ := hp 0 _ _ rfl rfl
    simp only at hpl hvr
    unfold Am.fill at hf
    split at hf
    · rename_i hc
      obtain ⟨hn, hle⟩ := hc
      have hcl := hvr.cells.length
      have hus := hz.length
      have hsz : u.cells.size = n := by rw [← hn, hcl]; simp
      have hle2 : off + u.cells.size ≤ us.size := by simp at hus; omega
      have hset := setAll us off u.cells.toList 0 (by simp; omega)
      simp only [Nat.add_zero] at hset
      have hz2 : VRL e (splice z off x.cells) ((u.cells.zipIdx.foldl (fun cs (c, j) => cs.setIfInBounds (off + j) c) us)).toList := by
        rw [← Array.foldl_toList]
        rw [show u.cells.zipIdx.toList = u.cells.toList.zipIdx 0 by simp]
        rw [hset]
        exact hz.splice hvr.cells off
      obtain ⟨ws, h1, h2⟩ := fill_sound hz2 (by simpa using hl) (fun j p q hpj hqj => hp (j + 1) p q (by simpa using hpj) (by simpa using hqj)) hf
      refine ⟨ws, ?_, h2⟩
      simp only [Go.Instr.fill, hpl, hsz]
      rw [hsz] at hle2
      simp only [ne_eq, not_true_eq_false, decide_false, Bool.false_or, decide_eq_true_eq]
      rw [if_neg (by omega)]
      exact h1
    · simp at hf

theorem partsS_sound (hρ : OpdR e t ρ) {fs : Array Go.Field} : ∀ {ps : List (Nat × Operand)} {qs : List (Nat × Nat × AOpd)}, partsS P fs ps = some qs → qs.length = ps.length ∧
    ∀ (i : Nat) p q, ps[i]? = some p → qs[i]? = some q → ∃ f, fs[p.1]? = some f ∧ q.1 = f.offset ∧ szOf P f.type = some q.2.1 ∧ VR e (t.ev q.2.2) (ρ p.2)
  | [], qs, h => by simp [partsS] at h; subst h; exact ⟨rfl, fun i p q hp => by simp at hp⟩
  | (i, x) :: ps, qs, h => by
    unfold partsS at h
    obtain ⟨f, hf, h⟩ := Option.bind_eq_some_iff.1 h
    obtain ⟨n, hn, h⟩ := Option.bind_eq_some_iff.1 h
    obtain ⟨a, ha, h⟩ := Option.bind_eq_some_iff.1 h
    obtain ⟨rs, hrs, h⟩ := Option.bind_eq_some_iff.1 h
    cases h
    obtain ⟨h1, h2⟩ := partsS_sound hρ hrs
    refine ⟨by simp [h1], fun j p q hp hq => ?_⟩
    cases j with
    | zero => simp at hp hq; subst hp hq; exact ⟨f, hf, rfl, hn, hρ _ _ ha⟩
    | succ j => exact h2 j p q (by simpa using hp) (by simpa using hq)

theorem partsA_sound (hρ : OpdR e t ρ) {k : Nat} : ∀ {ps : List (Nat × Operand)} {qs : List (Nat × Nat × AOpd)}, partsA k ps = some qs → qs.length = ps.length ∧
    ∀ (i : Nat) p q, ps[i]? = some p → qs[i]? = some q → q.1 = p.1 * k ∧ q.2.1 = k ∧ VR e (t.ev q.2.2) (ρ p.2)
  | [], qs, h => by simp [partsA] at h; subst h; exact ⟨rfl, fun i p q hp => by simp at hp⟩
  | (i, x) :: ps, qs, h => by
    unfold partsA at h
    obtain ⟨a, ha, h⟩ := Option.bind_eq_some_iff.1 h
    obtain ⟨rs, hrs, h⟩ := Option.bind_eq_some_iff.1 h
    cases h
    obtain ⟨h1, h2⟩ := partsA_sound hρ hrs
    refine ⟨by simp [h1], fun j p q hp hq => ?_⟩
    cases j with
    | zero => simp at hp hq; subst hp hq; exact ⟨rfl, rfl, hρ _ _ ha⟩
    | succ j => exact h2 j p q (by simpa using hp) (by simpa using hq)

theorem partsL_sound (hρ : OpdR e t ρ) : ∀ {ps : List (Nat × Operand)} {qs : List (Nat × AOpd)}, partsL ps = some qs → qs.length = ps.length ∧
    ∀ (i : Nat) p q, ps[i]? = some p → qs[i]? = some q → q.1 = p.1 ∧ VR e (t.ev q.2) (ρ p.2)
  | [], qs, h => by simp [partsL] at h; subst h; exact ⟨rfl, fun i p q hp => by simp at hp⟩
  | (i, x) :: ps, qs, h => by
    unfold partsL at h
    obtain ⟨a, ha, h⟩ := Option.bind_eq_some_iff.1 h
    obtain ⟨rs, hrs, h⟩ := Option.bind_eq_some_iff.1 h
    cases h
    obtain ⟨h1, h2⟩ := partsL_sound hρ hrs
    refine ⟨by simp [h1], fun j p q hp hq => ?_⟩
    cases j with
    | zero => simp at hp hq; subst hp hq; exact ⟨rfl, hρ _ _ ha⟩
    | succ j => exact h2 j p q (by simpa using hp) (by simpa using hq)

theorem run_mapM_fields {fs : Array Go.Field} (hall : (fs.all fun f => (szOf P f.type).isSome) = true) : (fs.mapM fun f => do pure (f.offset, ← Go.sizeOf f.type) : Go.Sem (Array (Nat × Nat))).run P w =
    .ok (fs.map fun f => (f.offset, (szOf P f.type).getD 0)) w := by
  rw [Array.mapM_eq_mapM_toList]
  have key : ∀ (l : List Go.Field), (∀ f ∈ l, (szOf P f.type).isSome = true) → (l.mapM fun f => do pure (f.offset, ← Go.sizeOf f.type) : Go.Sem (List (Nat × Nat))).run P w = .ok (l.map fun f => (f.offset, (szOf P f.type).getD 0)) w := by
    intro l
    induction l with
    | nil => intro _; rfl
    | cons f l ih =>
      intro hl
      obtain ⟨n, hn⟩ := Option.isSome_iff_exists.1 (hl f (by simp))
      have ih := ih fun g hg => hl g (by simp [hg])
      simp only [List.mapM_cons, Go.Sem.run_bind, run_sz hn, Go.Result.andThen_ok, Go.Sem.run_pure, ih, List.map_cons, hn, Option.getD_some]
  have hl : ∀ f ∈ fs.toList, (szOf P f.type).isSome = true := by
    intro f hf
    rw [Array.all_eq_true_iff_forall_mem] at hall
    exact hall f (by simpa using hf)
  simp only [Go.Sem.run_map, key _ hl, Go.Result.andThen_ok]
  congr 1
  apply Array.toList_inj.1
  simp

theorem op_buildS {ty : TypeId} {ps : Array (Nat × Operand)} {fs : Array Go.Field} {z : List V} {qs : List (Nat × Nat × AOpd)} (ho : o.op = .build ty ps) (s : Sim C B e h w) (hρ : OpdR e t ρ) (hd : P.underlying ty = some (.struct fs))
    (hz : zeroT P ty = some z) (hq : partsS P fs ps.toList = some qs) (hall : (fs.all fun f => (szOf P f.type).isSome) = true) (hev : (AOp.build z qs).ev t.ev h = some (v, h')) : OpRes .pure C B e h w ((Go.execOp ρ o).run P w) v h' := by
  simp only [AOp.ev] at hev
  obtain ⟨cs, hcs, hev⟩ := Option.bind_eq_some_iff.1 hev
  cases hev
  obtain ⟨zv, hzr, hzv⟩ := run_zero hz w
  obtain ⟨h1, h2⟩ := partsS_sound (P := P) hρ hq
  obtain ⟨ws, hf, hvr⟩ := fill_sound (e := e) (place := fun i => (fs.map fun f => (f.offset, (szOf P f.type).getD 0))[i]?) (ps := (ps.toList.map fun p => (p.1, ρ p.2))) (hzv e) (by simp [h1]) (fun i p q hp hq => by
    rw [List.getElem?_map] at hp hq
    obtain ⟨p', hp', rfl⟩ := Option.map_eq_some_iff.1 hp
    obtain ⟨q', hq', rfl⟩ := Option.map_eq_some_iff.1 hq
    obtain ⟨f, hf1, hf2, hf3, hf4⟩ := h2 i p' q' hp' hq'
    exact ⟨by simp [hf1, hf3, hf2], hf4⟩) hcs
  refine OpRes.pure s (u := .agg ws) ?_ (.agg _ _ hvr)
  simp only [Go.execOp, ho, Go.Instr.build, Go.Sem.run_bind, hzr, Go.Result.andThen_ok, Go.run_underlying hd, run_mapM_fields hall]
  have : (Array.map (fun (x : Nat × Operand) => (x.1, ρ x.2)) ps).toList = ps.toList.map fun p => (p.1, ρ p.2) := by simp
  simp only [this, hf, Go.Sem.run_pure, Go.Result.andThen_ok]

theorem op_buildA {ty el : TypeId} {len k : Nat} {ps : Array (Nat × Operand)} {z : List V} {qs : List (Nat × Nat × AOpd)} (ho : o.op = .build ty ps) (s : Sim C B e h w) (hρ : OpdR e t ρ) (hd : P.underlying ty = some (.array len el))
    (hz : zeroT P ty = some z) (hk : szOf P el = some k) (hq : partsA k ps.toList = some qs) (hev : (AOp.build z qs).ev t.ev h = some (v, h')) : OpRes .pure C B e h w ((Go.execOp ρ o).run P w) v h' := by
  simp only [AOp.ev] at hev
  obtain ⟨cs, hcs, hev⟩ := Option.bind_eq_some_iff.1 hev
  cases hev
  obtain ⟨zv, hzr, hzv⟩ := run_zero hz w
  obtain ⟨h1, h2⟩ := partsA_sound hρ hq
  obtain ⟨ws, hf, hvr⟩ := fill_sound (e := e) (place := fun i => some (i * k, k)) (ps := (ps.toList.map fun p => (p.1, ρ p.2))) (hzv e) (by simp [h1]) (fun i p q hp hq => by
    rw [List.getElem?_map] at hp hq
    obtain ⟨p', hp', rfl⟩ := Option.map_eq_some_iff.1 hp
    obtain ⟨q', hq', rfl⟩ := Option.map_eq_some_iff.1 hq
    obtain ⟨hf1, hf2, hf3⟩ := h2 i p' q' hp' hq'
    exact ⟨by simp [hf1, hf2], hf3⟩) hcs
  refine OpRes.pure s (u := .agg ws) ?_ (.agg _ _ hvr)
  simp only [Go.execOp, ho, Go.Instr.build, Go.Sem.run_bind, hzr, Go.Result.andThen_ok, Go.run_underlying hd, run_sz hk]
  have : (Array.map (fun (x : Nat × Operand) => (x.1, ρ x.2)) ps).toList = ps.toList.map fun p => (p.1, ρ p.2) := by simp
  simp only [this, hf, Go.Sem.run_pure, Go.Result.andThen_ok]

/-! ### Rows of zeros -/
theorem zrow {z : List V} {zc : Array Value} {k : Nat} (hz : VRL e z zc.toList) (hk : z.length = k) (hfl : z.all V.flat = true) (n : Nat) (g : Nat → Value) (hg : ∀ q, q < n * k → g q = zc[q % k]!) : VRR e k (List.replicate n z) ((List.range (n * k)).map g) := by
  have hl := hz.length
  refine ⟨by simp, fun r row hr => ?_⟩
  have hrn : r < n := by
    have := (List.getElem?_eq_some_iff.1 hr).1
    simpa using this
  rw [List.getElem?_replicate, if_pos hrn] at hr
  cases hr
  refine ⟨hk, fun j x hj => ?_⟩
  have hjk : j < k := by rw [← hk]; exact (List.getElem?_eq_some_iff.1 hj).1
  obtain ⟨u, hu, hv⟩ := hz.get j x hj
  have hlt : r * k + j < n * k := by
    have : (r + 1) * k ≤ n * k := Nat.mul_le_mul_right k hrn
    rw [Nat.add_mul] at this; omega
  refine ⟨u, ?_, hv, List.all_eq_true.1 hfl _ (List.mem_of_getElem? hj)⟩
  rw [List.getElem?_map, List.getElem?_range hlt]
  simp only [Option.map_some]
  rw [hg _ hlt]
  have hm : (r * k + j) % k = j := by rw [Nat.add_comm, Nat.add_mul_mod_self_right, Nat.mod_eq_of_lt hjk]
  rw [hm]
  have hu2 : zc[j]? = some u := by simpa using hu
  have hlt2 : j < zc.size := (Array.getElem?_eq_some_iff.1 hu2).1
  rw [getElem!_pos zc j hlt2]
  rw [Array.getElem?_eq_getElem hlt2] at hu2
  rw [Option.some.inj hu2]

theorem flatten_rows {k : Nat} : ∀ {rs : List (List V)} {us : List Value}, VRR e k rs us → VRL e rs.flatten us
  | [], us, h => by
    have : us = [] := by have := h.len; simpa using this
    subst this; exact .nil
  | row :: rs, us, h => by
    obtain ⟨hk, hc⟩ := h.row 0 row rfl
    have hlen := h.len
    simp only [List.length_cons, Nat.add_mul, Nat.one_mul] at hlen
    have h1 : VRL e row (us.take k) := VRL.of_get (by simp; omega) fun j x u hj hu => by
      obtain ⟨u', hu', hv⟩ := hc j x hj
      have hjk : j < k := by rw [← hk]; exact (List.getElem?_eq_some_iff.1 hj).1
      rw [List.getElem?_take_of_lt hjk] at hu
      simp only [Nat.zero_mul, Nat.zero_add] at hu'
      rw [hu] at hu'; cases hu'; exact hv.1
    have h2 : VRR e k rs (us.drop k) := ⟨by simp; omega, fun r row' hr => by
      obtain ⟨a, b⟩ := h.row (r + 1) row' (by simpa using hr)
      refine ⟨a, fun j x hj => ?_⟩
      obtain ⟨u, hu, hv⟩ := b j x hj
      refine ⟨u, ?_, hv⟩
      rw [List.getElem?_drop]
      rw [Nat.add_mul, Nat.one_mul] at hu
      rw [← hu]; congr 1; omega⟩
    have := h1.append (flatten_rows h2)
    rw [List.take_append_drop] at this
    simpa using this

theorem bytesOf_sound : ∀ {vs : List V} {bs : List UInt8} {us : List Value}, bytesOf vs = some bs → VRL e vs us → us = bcells bs
  | [], bs, us, h, hv => by simp [bytesOf] at h; subst h; cases hv; rfl
  | x :: vs, bs, us, h, hv => by
    unfold bytesOf at h
    obtain ⟨c, hc, h⟩ := Option.bind_eq_some_iff.1 h
    obtain ⟨cs, hcs, h⟩ := Option.bind_eq_some_iff.1 h
    cases h
    cases hv with
    | cons _ u _ us hx hs =>
      rw [byteOf_sound hc hx, bytesOf_sound hcs hs]; rfl

/-- A slice of rows in a new block. -/
theorem newRow_rows {el : TypeId} {k len : Nat} {rs : List (List V)} {cs : Array Value} (hk : 0 < k) (hr : VRR e k rs cs.toList) (hl : len ≤ rs.length) :
    (Go.newRow el cs).run P w = .ok ⟨w.heap.size, 0, none⟩ { w with heap := w.heap.push (.cells cs el (0, 0)) } ∧
      (∀ e', e.le e' → BlkR C e' (.rows k rs false) ⟨w.heap.size, 0, k, rs.length⟩ { w with heap := w.heap.push (.cells cs el (0, 0)) }) ∧
      VR (e.add h.nx ⟨w.heap.size, 0, k, rs.length⟩) (.sl (some (h.nx, 0)) len rs.length true) (.slice (some ⟨w.heap.size, 0, none⟩) len rs.length) := by
  refine ⟨by simp [Go.newRow], fun e' he =>
    blk_rows (cs := cs) (el := el) (fr := (0, 0)) hk (hr.mono he) (push_get (w := w) rfl) (fun j x hj => by simpa using hj) (by have := hr.len; simp at this; omega) (fun j _ hx => by have := hx.2; simp at this), ?_⟩
  exact .sl (e := e.add h.nx ⟨w.heap.size, 0, k, rs.length⟩) h.nx 0 _ _ _ true _ _ (Emb.add_same _ _ _) hl (Nat.le_refl _) (fun _ => rfl) (fun _ => ⟨by simp, by simp⟩)
theorem newRow_bytes {el : TypeId} {len : Nat} {bs : List UInt8} {cs : Array Value} (hr : cs.toList = bcells bs) (hl : len ≤ bs.length) :
    (Go.newRow el cs).run P w = .ok ⟨w.heap.size, 0, none⟩ { w with heap := w.heap.push (.cells cs el (0, 0)) } ∧
      (∀ e', e.le e' → BlkR C e' (.bytes bs false) ⟨w.heap.size, 0, 1, bs.length⟩ { w with heap := w.heap.push (.cells cs el (0, 0)) }) ∧
      VR (e.add h.nx ⟨w.heap.size, 0, 1, bs.length⟩) (.sl (some (h.nx, 0)) len bs.length true) (.slice (some ⟨w.heap.size, 0, none⟩) len bs.length) := by
  have hsz : cs.size = bs.length := by rw [← Array.length_toList, hr]; simp [bcells]
  refine ⟨by simp [Go.newRow], fun e' _ =>
    blk_bytes (cs := cs) (el := el) (fr := (0, 0)) (push_get (w := w) rfl) (fun j x hj => by rw [← Array.getElem?_toList, hr]; simp [bcells, hj]) (by omega) (fun j _ hx => by have := hx.2; simp at this), ?_⟩
  exact .sl (e := e.add h.nx ⟨w.heap.size, 0, 1, bs.length⟩) h.nx 0 _ _ _ true _ _ (Emb.add_same _ _ _) hl (Nat.le_refl _) (fun _ => rfl) (fun _ => ⟨by simp, by simp⟩)

theorem op_mkS {ty el : TypeId} {k bytes : Nat} {by_ : Bool} {z : List V} {L C' : Operand} {l c : AOpd} (ho : o.op = .makeSlice ty L C') (_ : Sim C B e h w) (hρ : OpdR e t ρ) (hl : opd L = some l) (hc : opd C' = some c) (hd : P.underlying ty = some (.slice el))
    (hz : zeroT P el = some z) (hk : szOf P el = some k) (hby : bytesOfT P el = some bytes) (hzk : z.length = k) (hb : by_ = false ∨ V.beqs z [.i .u8 0] = true)
    (hev : (AOp.mkS z by_ bytes l c).ev t.ev h = some (v, h')) : OpRes .alloc C B e h w ((Go.execOp ρ o).run P w) v h' := by
  simp only [AOp.ev] at hev
  have vl := hρ _ _ hl
  have vc := hρ _ _ hc
  split at hev
  · rename_i l' c' hp hq
    rw [hp] at vl; rw [hq] at vc
    split at hev
    · rename_i hcond
      obtain ⟨h0, hlc, hb0, hroom, hzne, hflat⟩ := hcond
      have hcb : c' ≤ 140737488355328 := by
        have : 1 * c'.toNat ≤ bytes * c'.toNat := Nat.mul_le_mul_right _ hb0
        omega
      have hl2 := vl.i_inv
      have hc2 := vc.i_inv
      obtain ⟨i, hi, hib⟩ : ∃ i, P.info? el = some i ∧ i.bytes = bytes := Option.map_eq_some_iff.1 hby
      obtain ⟨zv, hzr, hzv⟩ := run_zero hz w
      have hwrap : ∀ n : Int, 0 ≤ n → n ≤ 140737488355328 → IntKind.i64.wrap n = n := by
        intro n h1 h2
        unfold Go.IntKind.wrap
        dsimp only [Go.IntKind.bits, Go.IntKind.signed]
        rw [Int.emod_eq_of_lt h1 (by omega)]
        have h3 : ¬ (n ≥ 2 ^ (64 - 1)) := by omega
        simp only [h3, decide_false, Bool.and_false, Bool.false_eq_true, if_false]
      have hk0 : 0 < k := by rw [← hzk]; exact List.length_pos_iff.2 hzne
      -- what the model's make comes to
      have hmk : ∀ {A : Addr} {w' : World}, (Go.newRow el ((Array.range (c'.toNat * k)).map (zv.cells[· % zv.cells.size]!))).run P w = .ok A w' →
          (Go.execOp ρ o).run P w = .ok (.value (.slice (some A) l'.toNat c'.toNat)) w' := by
        intro A w' hrun
        have g1 : ¬ (c' < 0) := by omega
        have g2 : ¬ ((bytes : Int) * c' > 2 ^ 48) := by
          have : (bytes : Int) * c' = ((bytes * c'.toNat : Nat) : Int) := by push_cast; rw [Int.toNat_of_nonneg (by omega)]
          rw [this]; omega
        have g3 : ¬ (l' < 0) := by omega
        have g4 : ¬ (l' > c') := by omega
        simp only [Go.execOp, ho, Go.Instr.makeSlice, Go.Sem.run_bind, Go.run_underlying hd, Go.Result.andThen_ok, hl2, hc2, Go.asInt, Go.asIntOf, Go.Sem.run_pure, run_info hi, hwrap c' (by omega) hcb, hwrap l' h0 (by omega), hib]
        simp only [g1, g2, g3, g4, decide_false, Bool.or_self, Bool.false_eq_true, if_false, Go.Sem.run_bind, Go.run_askRoom, Go.Result.andThen_ok, run_sz hk]
        by_cases hn : c'.toNat * k = 0
        · have : c'.toNat = 0 := by
            rcases Nat.mul_eq_zero.1 hn with h1 | h1
            · exact h1
            · omega
          rw [this] at hrun ⊢
          simp only [Nat.zero_mul, if_true, Go.Sem.run_bind, Go.Sem.run_pure, Go.Result.andThen_ok] at hrun ⊢
          have e1 : (Array.range 0).map (fun x => (#[] : Array Value)[x % (#[] : Array Value).size]!) = (Array.range 0).map (zv.cells[· % zv.cells.size]!) := by simp
          rw [e1, hrun]
          rfl
        · simp only [hn, if_false, Go.Sem.run_bind, hzr, Go.Result.andThen_ok, Go.Sem.run_pure, hrun]
      have hzs : zv.cells.size = k := by have := (hzv e).length; simp at this; omega
      have hrows : VRR e k (List.replicate c'.toNat z) ((Array.range (c'.toNat * k)).map (zv.cells[· % zv.cells.size]!)).toList := by
        have := zrow (hzv e) hzk hflat c'.toNat (fun q => zv.cells[q % zv.cells.size]!) (fun q _ => by rw [hzs])
        simpa using this
      split at hev
      · rename_i hbt
        split at hev
        · rename_i hz1
          simp at hev; obtain ⟨rfl, rfl⟩ := hev
          have hzb : z = [.i .u8 0] := by
            rcases hb with hb | hb
            · rw [hbt] at hb; cases hb
            · exact V.beqs_eq _ _ hb
          have hk1 : k = 1 := by omega
          have hbc : bytesOf (List.replicate c'.toNat z).flatten = some (List.replicate c'.toNat 0) := by
            rw [hzb]
            generalize c'.toNat = n
            induction n with
            | zero => rfl
            | succ n ih =>
              simp only [List.replicate_succ, List.flatten_cons, List.singleton_append, bytesOf, ih]
              rfl
          have hcells := bytesOf_sound hbc (flatten_rows hrows)
          obtain ⟨h1, h2, h3⟩ := newRow_bytes (P := P) (C := C) (e := e) (h := h) (w := w) (el := el) (len := l'.toNat) hcells (by simp; omega)
          simp only [List.length_replicate] at h2 h3
          exact ⟨_, _, _, _, _, hmk h1, rfl, rfl, rfl, rfl, h2, h3⟩
        · simp at hev
      · simp at hev; obtain ⟨rfl, rfl⟩ := hev
        obtain ⟨h1, h2, h3⟩ := newRow_rows (P := P) (C := C) (e := e) (h := h) (w := w) (el := el) (len := l'.toNat) hk0 hrows (by simp; omega)
        simp only [List.length_replicate] at h2 h3
        rw [hzk]
        exact ⟨_, _, _, _, _, hmk h1, rfl, rfl, rfl, rfl, h2, h3⟩
    · simp at hev
  · simp at hev

end Am
