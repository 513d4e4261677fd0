/- AmOps5: the operations, the rest: slice literals, maps, iterators, builtins. -/
import Derived.Test.YtibmhhdgcbaofaaDoorAmOps4
namespace Am
set_option linter.unusedVariables false
set_option linter.unusedSimpArgs false
open Go (IntKind BinOp UnOp Value Program TypeId TypeDesc Operand Oper Code Tmp World Addr Obj Act)

variable {P : Program} {C : Cx} {B : Nat} {e e' : Emb} {h h' : H} {w w' : World} {t : Tm} {ρ : Operand → Value} {o : Oper} {v : V}

theorem VRR.set {k : Nat} {rs : List (List V)} {us : List Value} {row : List V} {ws : List Value} {i : Nat} (h : VRR e k rs us) (hr : VRL e row ws) (hfl : row.all V.flat = true) (hk : row.length = k) (hi : i < rs.length) : VRR e k (rs.set i row) (splice us (i * k) ws) := by
  have hwl := hr.length
  have hle : i * k + ws.length ≤ us.length := by
    rw [h.len, ← hwl, hk]
    have : (i + 1) * k ≤ rs.length * k := Nat.mul_le_mul_right k hi
    rw [Nat.add_mul] at this; omega
  refine ⟨by rw [splice_length _ _ _ hle, h.len]; simp, fun r row' hrow => ?_⟩
  rw [List.getElem?_set] at hrow
  by_cases hir : i = r
  · subst hir
    rw [if_pos rfl, if_pos hi] at hrow
    cases hrow
    refine ⟨hk, fun j x hj => ?_⟩
    obtain ⟨u, hu, hv⟩ := hr.get j x hj
    have hjk : j < ws.length := (List.getElem?_eq_some_iff.1 hu).1
    refine ⟨u, ?_, hv, List.all_eq_true.1 hfl _ (List.mem_of_getElem? hj)⟩
    rw [splice_get _ _ _ _ hle, if_neg (by omega), if_pos (by omega)]
    rw [← hu]; congr 1; omega
  · rw [if_neg hir] at hrow
    obtain ⟨a, b⟩ := h.row r row' hrow
    refine ⟨a, fun j x hj => ?_⟩
    obtain ⟨u, hu, hv⟩ := b j x hj
    have hjk : j < k := by rw [← a]; exact (List.getElem?_eq_some_iff.1 hj).1
    refine ⟨u, ?_, hv⟩
    rw [splice_get _ _ _ _ hle]
    rcases Nat.lt_or_gt_of_ne hir with hlt | hlt
    · have : (i + 1) * k ≤ r * k := Nat.mul_le_mul_right k hlt
      rw [Nat.add_mul] at this
      rw [if_neg (by omega), if_neg (by rw [← hwl, hk]; omega)]; exact hu
    · have : (r + 1) * k ≤ i * k := Nat.mul_le_mul_right k hlt
      rw [Nat.add_mul] at this
      rw [if_pos (by omega)]; exact hu

theorem fillRows_sound {k : Nat} : ∀ {ps : List (Nat × Value)} {qs : List (Nat × V)} {rs out : List (List V)} {us : Array Value}, VRR e k rs us.toList →
    qs.length = ps.length → (∀ (i : Nat) p q, ps[i]? = some p → qs[i]? = some q → q.1 = p.1 ∧ VR e q.2 p.2) → fillRows k rs qs = some out →
    ∃ ws, Go.Instr.fill (fun i => some (i * k, k)) us ps = some ws ∧ VRR e k out ws.toList ∧ out.length = rs.length
  | [], qs, rs, out, us, hz, hl, hp, hf => by
    have : qs = [] := List.length_eq_zero_iff.1 hl
    subst this
    simp [fillRows] at hf; subst hf
    exact ⟨us, rfl, hz, rfl⟩
  | (i, u) :: ps, [], rs, out, us, hz, hl, hp, hf => by simp at hl
  | (i, u) :: ps, (i', x) :: qs, rs, out, us, hz, hl, hp, hf => by
    obtain ⟨hpl, hvr⟩ := hp 0 _ _ rfl rfl
    simp only at hpl hvr
    subst hpl
    unfold fillRows at hf
    split at hf
    · rename_i hc
      obtain ⟨hn, hlt, hfl⟩ := hc
      have hcl := hvr.cells.length
      have hsz : u.cells.size = k := by rw [← hn, hcl]; simp
      have hle2 : i' * k + k ≤ us.size := by
        have h1 := hz.len
        simp only [Array.length_toList] at h1
        rw [h1]
        have : (i' + 1) * k ≤ rs.length * k := Nat.mul_le_mul_right k hlt
        rw [Nat.add_mul] at this; omega
      have hset := setAll us (i' * k) u.cells.toList 0 (by simp; omega)
      simp only [Nat.add_zero] at hset
      have hz2 : VRR e k (rs.set i' x.cells) ((u.cells.zipIdx.foldl (fun cs (c, j) => cs.setIfInBounds (i' * k + j) c) us)).toList := by
        rw [← Array.foldl_toList]
        rw [show u.cells.zipIdx.toList = u.cells.toList.zipIdx 0 by simp]
        rw [hset]
        exact hz.set hvr.cells hfl hn hlt
      obtain ⟨ws, h1, h2, h3⟩ := fillRows_sound hz2 (by simpa using hl) (fun j p q hpj hqj => hp (j + 1) p q (by simpa using hpj) (by simpa using hqj)) hf
      refine ⟨ws, ?_, h2, by simpa using h3⟩
      simp only [Go.Instr.fill, hsz]
      simp only [ne_eq, not_true_eq_false, decide_false, Bool.false_or, decide_eq_true_eq]
      rw [if_neg (by omega)]
      exact h1
    · simp at hf

theorem op_mkSl {ty el : TypeId} {len k : Nat} {by_ : Bool} {ps : Array (Nat × Operand)} {z : List V} {qs : List (Nat × AOpd)} (ho : o.op = .buildSlice ty len ps) (_ : Sim C B e h w) (hρ : OpdR e t ρ) (hd : P.underlying ty = some (.slice el))
    (hk : szOf P el = some k) (hz : zeroT P el = some z) (hq : partsL ps.toList = some qs) (hzk : z.length = k) (hroom : len * k ≤ 16777216)
    (hev : (AOp.mkSl z by_ len qs).ev t.ev h = some (v, h')) : OpRes .alloc C B e h w ((Go.execOp ρ o).run P w) v h' := by
  simp only [AOp.ev] at hev
  obtain ⟨rs, hrs, hev⟩ := Option.bind_eq_some_iff.1 hev
  obtain ⟨zv, hzr, hzv⟩ := run_zero hz w
  obtain ⟨h1, h2⟩ := partsL_sound hρ hq
  rw [hzk] at hrs hev
  have hzs : zv.cells.size = k := by have := (hzv e).length; simp at this; omega
  -- the row of zeros, as the model has it
  let zr : Array Value := if len * k = 0 then #[] else zv.cells
  let us : Array Value := (Array.range (len * k)).map (zr[· % zr.size]!)
  have hzero : VRR e k (List.replicate len z) us.toList := by
    have := zrow (hzv e) hzk (zeroT_flat hz) len (fun q => zr[q % zr.size]!) (fun q hq => by
      have : zr = zv.cells := by simp only [zr]; rw [if_neg (by omega)]
      rw [this, hzs])
    simpa [us] using this
  obtain ⟨ws, hf, hvr, hlen⟩ := fillRows_sound (ps := ps.toList.map fun p => (p.1, ρ p.2)) hzero (by simp [h1]) (fun i p q hp hq => by
    rw [List.getElem?_map] at hp hq
    obtain ⟨p', hp', rfl⟩ := Option.map_eq_some_iff.1 hp
    obtain ⟨q', hq', rfl⟩ := Option.map_eq_some_iff.1 hq
    exact h2 i p' q' hp' hq') hrs
  simp only [List.length_replicate] at hlen
  have hrun : ∀ {A : Addr} {w' : World}, (Go.newRow el ws).run P w = .ok A w' → (Go.execOp ρ o).run P w = .ok (.value (.slice (some A) len len)) w' := by
    intro A w' hn
    have g1 : ¬ (len * k > 2 ^ 24) := by omega
    have e1 : (Array.map (fun (x : Nat × Operand) => (x.1, ρ x.2)) ps).toList = ps.toList.map fun p => (p.1, ρ p.2) := by simp
    simp only [Go.execOp, ho, Go.Instr.buildSlice, Go.Sem.run_bind, Go.run_underlying hd, Go.Result.andThen_ok, run_sz hk, g1, if_false, Go.Sem.run_pure, e1]
    by_cases h0 : len * k = 0
    · have hf2 : Go.Instr.fill (fun i => some (i * k, k)) ((Array.range (len * k)).map ((#[] : Array Value)[· % (#[] : Array Value).size]!)) (ps.toList.map fun p => (p.1, ρ p.2)) = some ws := by
        have : us = ((Array.range (len * k)).map ((#[] : Array Value)[· % (#[] : Array Value).size]!)) := by
          simp only [us, zr]; rw [if_pos h0]
        rw [← this]; exact hf
      simp only [h0, if_true] at hf2 ⊢
      simp only [hf2, Go.Sem.run_bind, hn, Go.Result.andThen_ok, Go.Sem.run_pure]
    · have hf2 : Go.Instr.fill (fun i => some (i * k, k)) ((Array.range (len * k)).map (zv.cells[· % zv.cells.size]!)) (ps.toList.map fun p => (p.1, ρ p.2)) = some ws := by
        have : us = ((Array.range (len * k)).map (zv.cells[· % zv.cells.size]!)) := by
          simp only [us, zr]; rw [if_neg h0]
        rw [← this]; exact hf
      simp only [h0, if_false, Go.Sem.run_bind, hzr, Go.Sem.run_pure, Go.Result.andThen_ok, hf2, hn]
  split at hev
  · obtain ⟨bs, hbs, hev⟩ := Option.bind_eq_some_iff.1 hev
    split at hev
    · rename_i hk1
      simp at hev; obtain ⟨rfl, rfl⟩ := hev
      have hcells := bytesOf_sound hbs (flatten_rows hvr)
      have hbl : bs.length = len := by
        have h3 := hvr.len
        rw [hcells, hlen, hk1] at h3
        simpa [bcells] using h3
      obtain ⟨g1, g2, g3⟩ := newRow_bytes (P := P) (C := C) (e := e) (h := h) (w := w) (el := el) (len := len) hcells (by omega)
      rw [hbl] at g2 g3
      exact ⟨_, _, _, _, _, hrun g1, rfl, rfl, rfl, rfl, g2, g3⟩
    · simp at hev
  · split at hev
    · simp at hev
    · rename_i hne
      simp at hev; obtain ⟨rfl, rfl⟩ := hev
      have hk0 : 0 < k := by rw [← hzk]; exact List.length_pos_iff.2 hne
      obtain ⟨g1, g2, g3⟩ := newRow_rows (P := P) (C := C) (e := e) (h := h) (w := w) (el := el) (len := len) hk0 hvr (by omega)
      rw [hlen] at g2 g3
      exact ⟨_, _, _, _, _, hrun g1, rfl, rfl, rfl, rfl, g2, g3⟩

/-! ### Maps -/
def KeyD (kk : KeyK) (d : TypeDesc) : Prop := match kk with | .int => ∃ k, d = .int k | .str => d = .string | .bool => d = .bool
theorem VR.m0_inv {u : Value} (h : VR e (.m none) u) : u = .map none := by cases h; rfl
theorem VR.m_inv {b : Nat} {u : Value} {l : Loc} (h : VR e (.m (some b)) u) (hl : e b = some l) : u = .map (some l.cb) := by
  cases h with | m _ l' h1 => rw [hl] at h1; cases h1; rfl
theorem VR.tup_inv {vs : List V} {u : Value} (h : VR e (.tup vs) u) : ∃ ws : Array Value, u = .tuple ws ∧ VRL e vs ws.toList := by cases h with | tup _ ws h => exact ⟨ws, rfl, h⟩
theorem beq_bytes (a b : ByteArray) : (a == b) = decide (a.data.toList = b.data.toList) := by
  show (a.data == b.data) = _
  rw [Bool.eq_iff_iff]; simp

theorem key_desc {kt : TypeId} {kk : KeyK} (h : keyKind P kt = some kk) : ∃ d, P.underlying kt = some d ∧ KeyD kk d := by
  unfold keyKind at h
  split at h <;> simp at h <;> subst h
  · exact ⟨_, ‹_›, _, rfl⟩
  · exact ⟨_, ‹_›, rfl⟩
  · exact ⟨_, ‹_›, rfl⟩

theorem keyEq_sound {kk : KeyK} {d : TypeDesc} {x y : V} {a b : Value} {r : Bool} (hd : KeyD kk d) (hx : VR e x a) (hy : VR e y b) (h : keyEq kk x y = some r) :
    Go.Instr.sameNow d a b = some r ∧ (r = true → Go.Instr.sameBits 10000 b a = true) ∧ (r = true → x = y) := by
  unfold keyEq at h
  split at h
  · have hd : d = .string := hd
    subst hd
    obtain ⟨sa, rfl, rfl⟩ := hx.s_inv
    obtain ⟨sb, rfl, rfl⟩ := hy.s_inv
    simp only [Option.some.injEq] at h; subst h
    refine ⟨?_, fun hr => ?_, fun hr => ?_⟩
    · simp only [Go.Instr.sameNow, beq_bytes]
    · simp only [decide_eq_true_eq] at hr
      simp only [Go.Instr.sameBits, beq_bytes, hr, decide_true]
    · simp at hr; rw [hr]
  · have hd : ∃ k, d = .int k := hd
    obtain ⟨kd, rfl⟩ := hd
    have h1 := hx.i_inv; have h2 := hy.i_inv; subst h1 h2
    split at h
    · rename_i hk; subst hk
      simp at h; subst h
      refine ⟨?_, fun hr => ?_, fun hr => ?_⟩
      · simp only [Go.Instr.sameNow, if_true, Option.some.injEq]
        rw [Bool.eq_iff_iff]; simp
      · simp at hr; subst hr; simp [Go.Instr.sameBits]
      · simp at hr; subst hr; rfl
    · simp at h
  · have hd : d = .bool := hd
    subst hd
    have h1 := hx.b_inv; have h2 := hy.b_inv; subst h1 h2
    simp at h; subst h
    refine ⟨rfl, fun hr => ?_, fun hr => ?_⟩
    · simp at hr; subst hr; simp [Go.Instr.sameBits]
    · simp at hr; subst hr; rfl
  · simp at h

theorem findKey_sound {kk : KeyK} {d : TypeDesc} {x : V} {a : Value} (hd : KeyD kk d) (hx : VR e x a) : ∀ {es : List (V × V)} {ces : List Go.MapEntry} {r : Option V} (i : Nat),
    VRL e (es.map (·.1)) (ces.map (·.key)) → VRL e (es.map (·.2)) (ces.map (·.val)) → findKey kk x es = some r →
    (r = none ∧ Go.Instr.findNow d a ces i = some none) ∨ ∃ j u y, r = some y ∧ Go.Instr.findNow d a ces i = some (some (i + j, u)) ∧ VR e y u ∧ (ces[j]?).map (·.val) = some u ∧ (∃ ko, (ces[j]?).map (·.key) = some ko ∧ Go.Instr.sameBits 10000 ko a = true)
  | [], ces, r, i, hk, hv, h => by
    simp [findKey] at h; subst h
    have : ces = [] := by
      have := hk.length; simp at this; exact List.length_eq_zero_iff.1 this.symm
    subst this
    exact .inl ⟨rfl, rfl⟩
  | en :: es, [], r, i, hk, hv, h => by have := hk.length; simp at this
  | en :: es, ce :: ces, r, i, hk, hv, h => by
    simp only [List.map_cons] at hk hv
    cases hk with
    | cons _ _ _ _ hk0 hks =>
      cases hv with
      | cons _ _ _ _ hv0 hvs =>
        unfold Am.findKey at h
        split at h
        · rename_i hq
          simp at h; subst h
          obtain ⟨g1, g2, _⟩ := keyEq_sound hd hx hk0 hq
          refine .inr ⟨0, ce.val, en.2, rfl, ?_, hv0, rfl, ce.key, rfl, g2 rfl⟩
          simp [Go.Instr.findNow, g1]
        · rename_i hq
          obtain ⟨g1, _, _⟩ := keyEq_sound hd hx hk0 hq
          rcases findKey_sound hd hx (i + 1) hks hvs h with ⟨h1, h2⟩ | ⟨j, u, y, h1, h2, h3, h4, h5⟩
          · exact .inl ⟨h1, by simp [Go.Instr.findNow, g1, h2]⟩
          · refine .inr ⟨j + 1, u, y, h1, ?_, h3, by simpa using h4, by simpa using h5⟩
            simp only [Go.Instr.findNow, g1, h2]
            congr 3; omega
        · simp at h

theorem checkKey_run {b : Bool} {kt : TypeId} {kk : KeyK} {a : Value} (hk : keyKind P kt = some kk) : (Go.Instr.checkKey b 10000 kt a).run P w = .ok () w := by
  obtain ⟨d, hd, hm⟩ := key_desc hk
  have h10 : (10000 : Nat) = 9999 + 1 := rfl
  rw [h10]
  unfold Go.Instr.checkKey
  simp only [Go.Sem.run_bind, Go.run_underlying hd, Go.Result.andThen_ok]
  cases kk
  · obtain ⟨k, rfl⟩ : ∃ k, d = .int k := hm; rfl
  · have : d = .string := hm; subst this; rfl
  · have : d = .bool := hm; subst this; rfl

theorem op_lk {ty kt et : TypeId} {kk : KeyK} {z : V} {ok : Bool} {M K : Operand} {m k : AOpd} (ho : o.op = .lookup ty M K ok) (s : Sim C B e h w) (hρ : OpdR e t ρ) (hm : opd M = some m) (hk : opd K = some k) (hd : P.underlying ty = some (.map kt et))
    (hkk : keyKind P kt = some kk) (hz : zeroV P et = some z) (hev : (AOp.lk kk z ok m k).ev t.ev h = some (v, h')) : OpRes .read C B e h w ((Go.execOp ρ o).run P w) v h' := by
  simp only [AOp.ev] at hev
  have vm := hρ _ _ hm
  have vk := hρ _ _ hk
  obtain ⟨zv, hzr, hzv⟩ := run_zeroV hz w
  obtain ⟨d, hdk, hmk⟩ := key_desc hkk
  have res : ∀ (y : V) (u : Value) (b : Bool), VR e y u → VR e (if ok then .tup [y, .b b] else y) (if ok then .tuple #[u, .bool b] else u) := by
    intro y u b hyu
    cases ok
    · exact hyu
    · exact .tup _ _ (.cons _ _ _ _ hyu (.cons _ _ _ _ (.b b) .nil))
  split at hev
  · rename_i hp
    rw [hp] at vm; simp at hev
    obtain ⟨rfl, rfl⟩ := hev
    have hu : ρ M = .map none := vm.m0_inv
    refine OpRes.read s (u := if ok then .tuple #[zv, .bool false] else zv) ?_ (res z zv false (hzv e))
    simp only [Go.execOp, ho, hu, Go.Instr.lookup, Go.Sem.run_bind, Go.run_underlying hd, Go.Result.andThen_ok, Go.Sem.run_pure, checkKey_run hkk]
    simp [Go.Instr.findKey, Go.run_underlying hdk, Go.Instr.findNow, hzr]
  · rename_i r hp
    rw [hp] at vm
    split at hev
    · rename_i es hb
      obtain ⟨x, hx, hev⟩ := Option.bind_eq_some_iff.1 hev
      obtain ⟨l, hl, hB, _, _⟩ := s.blk r _ hb
      obtain ⟨ces, clock, hheap, hks, hvs⟩ := hB
      have hu : ρ M = .map (some l.cb) := vm.m_inv hl
      have hget : (Go.getObj l.cb).run P w = .ok (.map ces clock) w := by simp [Go.getObj, Go.Sem.run, hheap]
      rcases findKey_sound hmk vk 0 hks hvs hx with ⟨rfl, hf⟩ | ⟨j, u, y, rfl, hf, hvu, _, _⟩
      · simp at hev
        obtain ⟨rfl, rfl⟩ := hev
        refine OpRes.read s (u := if ok then .tuple #[zv, .bool false] else zv) ?_ (res z zv false (hzv e))
        simp only [Go.execOp, ho, hu, Go.Instr.lookup, Go.Sem.run_bind, Go.run_underlying hd, Go.Result.andThen_ok, Go.Sem.run_pure, hget, checkKey_run hkk]
        simp [Go.Instr.findKey, Go.run_underlying hdk, hf, hzr]
      · simp at hev
        obtain ⟨rfl, rfl⟩ := hev
        refine OpRes.read s (u := if ok then .tuple #[u, .bool true] else u) ?_ (res y u true hvu)
        simp only [Go.execOp, ho, hu, Go.Instr.lookup, Go.Sem.run_bind, Go.run_underlying hd, Go.Result.andThen_ok, Go.Sem.run_pure, hget, checkKey_run hkk]
        simp [Go.Instr.findKey, Go.run_underlying hdk, hf]
    · simp at hev
  · simp at hev

theorem putKey_none {kk : KeyK} {x y : V} : ∀ {es es' : List (V × V)}, findKey kk x es = some none → putKey kk x y es = some es' → es' = es ++ [(x, y)]
  | [], es', _, h => by simp [putKey] at h; exact h.symm
  | en :: es, es', hf, h => by
    unfold Am.findKey at hf
    unfold putKey at h
    split at hf
    · simp at hf
    · rename_i hq
      rw [hq] at h
      simp only at h
      obtain ⟨es2, h2, h⟩ := Option.bind_eq_some_iff.1 h
      cases h
      rw [putKey_none hf h2]; rfl
    · simp at hf

theorem putKey_find {kk : KeyK} {x y : V} : ∀ {es es' : List (V × V)}, putKey kk x y es = some es' → ∃ r, findKey kk x es = some r
  | [], es', h => ⟨none, rfl⟩
  | en :: es, es', h => by
    unfold putKey at h
    unfold Am.findKey
    split at h
    · rename_i hq; exact ⟨_, rfl⟩
    · rename_i hq
      obtain ⟨es2, h2, h⟩ := Option.bind_eq_some_iff.1 h
      exact putKey_find h2
    · simp at h

/-- At the place where the key was found. -/
theorem putKey_some {kk : KeyK} {d : TypeDesc} {x y : V} {a b : Value} (hd : KeyD kk d) (hx : VR e x a) (hy : VR e y b) : ∀ {es es' : List (V × V)} {ces : List Go.MapEntry} (i j : Nat) (u : Value),
    VRL e (es.map (·.1)) (ces.map (·.key)) → VRL e (es.map (·.2)) (ces.map (·.val)) → putKey kk x y es = some es' → Go.Instr.findNow d a ces i = some (some (i + j, u)) → ∀ f : Go.MapEntry → Go.MapEntry, (∀ en, (f en).key = a ∧ (f en).val = b) →
    VRL e (es'.map (·.1)) ((ces.modify j f).map (·.key)) ∧ VRL e (es'.map (·.2)) ((ces.modify j f).map (·.val))
  | [], es', ces, i, j, u, hk, hv, h, hf, f, hff => by
    have : ces = [] := by
      have := hk.length; simp at this; exact List.length_eq_zero_iff.1 this.symm
    subst this
    simp [Go.Instr.findNow] at hf
  | en :: es, es', [], i, j, u, hk, hv, h, hf, f, hff => by have := hk.length; simp at this
  | en :: es, es', ce :: ces, i, j, u, hk, hv, h, hf, f, hff => by
    simp only [List.map_cons] at hk hv
    cases hk with
    | cons _ _ _ _ hk0 hks =>
      cases hv with
      | cons _ _ _ _ hv0 hvs =>
        unfold putKey at h
        split at h
        · rename_i hq
          simp at h; subst h
          obtain ⟨g1, _, _⟩ := keyEq_sound hd hx hk0 hq
          simp only [Go.Instr.findNow, g1, Option.some.injEq, Prod.mk.injEq] at hf
          have : j = 0 := by omega
          subst this
          simp only [List.modify_zero_cons, List.map_cons, (hff ce).1, (hff ce).2]
          exact ⟨.cons _ _ _ _ hx hks, .cons _ _ _ _ hy hvs⟩
        · rename_i hq
          obtain ⟨es2, h2, h⟩ := Option.bind_eq_some_iff.1 h
          cases h
          obtain ⟨g1, _, _⟩ := keyEq_sound hd hx hk0 hq
          simp only [Go.Instr.findNow, g1] at hf
          have hj : ∃ j', j = j' + 1 := by
            obtain ⟨r, hr⟩ := putKey_find h2
            rcases findKey_sound hd hx (i + 1) hks hvs hr with ⟨_, h5⟩ | ⟨j', u', _, _, h5, _⟩
            · rw [h5] at hf; simp at hf
            · rw [h5] at hf; simp at hf; exact ⟨j', by omega⟩
          obtain ⟨j', rfl⟩ := hj
          have ih := putKey_some hd hx hy (i + 1) j' u hks hvs h2 (by rw [hf]; congr 3; omega) f hff
          simp only [List.modify_succ_cons, List.map_cons]
          exact ⟨.cons _ _ _ _ hk0 ih.1, .cons _ _ _ _ hv0 ih.2⟩
        · simp at h

theorem op_mu {ty kt et : TypeId} {kk : KeyK} {M K X : Operand} {m k x : AOpd} (ho : o.op = .mapUpdate ty M K X ∨ o.op = .insert ty M K X) (s : Sim C B e h w) (hρ : OpdR e t ρ) (hm : opd M = some m) (hk : opd K = some k) (hx : opd X = some x) (hd : P.underlying ty = some (.map kt et))
    (hkk : keyKind P kt = some kk) (hev : (AOp.mu kk m k x).ev t.ev h = some (v, h')) : OpRes .eff C B e h w ((Go.execOp ρ o).run P w) v h' := by
  simp only [AOp.ev] at hev
  have vm := hρ _ _ hm
  have vk := hρ _ _ hk
  have vx := hρ _ _ hx
  obtain ⟨d, hdk, hmk⟩ := key_desc hkk
  split at hev
  · rename_i r hp
    rw [hp] at vm
    split at hev
    · rename_i es hb
      obtain ⟨es', hput, hev⟩ := Option.bind_eq_some_iff.1 hev
      cases hev
      obtain ⟨l, hl, hB, hlt, _⟩ := s.blk r _ hb
      obtain ⟨ces, clock, hheap, hks, hvs⟩ := hB
      have hu : ρ M = .map (some l.cb) := vm.m_inv hl
      have hget : (Go.getObj l.cb).run P w = .ok (.map ces clock) w := by simp [Go.getObj, Go.Sem.run, hheap]
      have hset : ∀ ob, (Go.setObj l.cb ob).run P w = .ok () { w with heap := w.heap.setIfInBounds l.cb ob } := by intro ob; simp [Go.setObj, Go.Sem.run, hheap]
      have hex : (Go.execOp ρ o) = (do Go.Instr.mapUpdate ty (ρ M) (ρ K) (ρ X); pure .skip) := by rcases ho with ho | ho <;> simp [Go.execOp, ho]
      have fin : ∀ ob, (∀ e', BlkR C e' (.map es') l { w with heap := w.heap.setIfInBounds l.cb ob } ∨ e' ≠ e) → Stp C B e h w e (h.set r (.map es')) { w with heap := w.heap.setIfInBounds l.cb ob } := by
        intro ob hob
        refine Stp.set s hb rfl hl (fun c hc => ?_) (by simp) ((hob e).resolve_right (by simp))
        simp only [Array.getElem?_setIfInBounds]
        rw [if_neg (fun hh => hc hh.symm)]
      have hat : ∀ ob, ({ w with heap := w.heap.setIfInBounds l.cb ob } : World).heap[l.cb]? = some ob := by
        intro ob; simp [hlt]
      obtain ⟨fr, hfr⟩ := putKey_find hput
      rcases findKey_sound hmk vk 0 hks hvs hfr with ⟨rfl, hf⟩ | ⟨j, u, y, rfl, hf, hvu, hcv, ko, hko, hsb⟩
      · have hes := putKey_none hfr hput
        refine ⟨Go.undef, _, e, .inr ⟨?_, rfl⟩, VR.un, fin (.map (ces.push { key := ρ K, val := ρ X, born := clock }) (clock + 1)) fun e' => ?_⟩
        · rw [hex]
          simp only [Go.Instr.mapUpdate, hu, Go.Sem.run_bind, Go.run_underlying hd, Go.Result.andThen_ok, hget, checkKey_run hkk, Go.Instr.findKey, Go.run_underlying hdk, hf, Go.Sem.run_pure, hset]
        · by_cases he : e' = e
          · subst he
            refine .inl ⟨_, _, hat _, ?_, ?_⟩
            · rw [hes]; simpa using hks.append (.cons _ _ _ _ vk .nil)
            · rw [hes]; simpa using hvs.append (.cons _ _ _ _ vx .nil)
          · exact .inr he
      · simp only [Nat.zero_add] at hf
        have hce : ces[j]? = ces.toList[j]? := by simp
        have hkeep : ((Go.Instr.keyThatStays (((ces[j]?).map (·.key)).getD (ρ K)) (ρ K)).run P w) = .ok (ρ K) w := by
          rw [hce, hko]
          simp [Go.Instr.keyThatStays, hsb]
        refine ⟨Go.undef, _, e, .inr ⟨?_, rfl⟩, VR.un, fin (.map (ces.modify j fun en => { en with key := ρ K, val := ρ X }) clock) fun e' => ?_⟩
        · rw [hex]
          simp only [Go.Instr.mapUpdate, hu, Go.Sem.run_bind, Go.run_underlying hd, Go.Result.andThen_ok, hget, checkKey_run hkk, Go.Instr.findKey, Go.run_underlying hdk, hf, Go.Sem.run_pure, hkeep, hset]
        · by_cases he : e' = e
          · subst he
            have := putKey_some hmk vk vx 0 j u hks hvs hput (by simpa using hf) (fun en => { en with key := ρ K, val := ρ X }) (fun en => ⟨rfl, rfl⟩)
            refine .inl ⟨_, _, hat _, ?_, ?_⟩
            · simpa [Array.toList_modify] using this.1
            · simpa [Array.toList_modify] using this.2
          · exact .inr he
    · simp at hev
  · simp at hev

/-! ### Iterators over strings -/
theorem op_rngS {ty : TypeId} {X : Operand} {x : AOpd} (ho : o.op = .range ty X) (_ : Sim C B e h w) (hρ : OpdR e t ρ) (hx : opd X = some x) (hd : P.underlying ty = some .string) (hev : (AOp.rngS x).ev t.ev h = some (v, h')) : OpRes .alloc C B e h w ((Go.execOp ρ o).run P w) v h' := by
  simp only [AOp.ev] at hev
  have vx := hρ _ _ hx
  split at hev
  · rename_i l hp
    rw [hp] at vx; simp at hev; obtain ⟨rfl, rfl⟩ := hev
    obtain ⟨b', hb', hl⟩ := vx.s_inv
    refine ⟨.pointer (some ⟨w.heap.size, 0, none⟩), { w with heap := w.heap.push (.stringIter b' 0) }, .stringIter b' 0, _, ⟨w.heap.size, 0, 1, 0⟩, ?_, rfl, rfl, rfl, rfl, fun e' _ => ⟨rfl, rfl, b', push_get (w := w) rfl, hl⟩, ?_⟩
    · simp [Go.execOp, ho, hb', Go.Instr.range, Go.run_underlying hd]
    · have := VR.p (e := e.add h.nx ⟨w.heap.size, 0, 1, 0⟩) h.nx 0 0 _ (Emb.add_same _ _ _)
      simpa using this
  · simp at hev

theorem op_nextS {X : Operand} {x : AOpd} (ho : o.op = .next X true) (s : Sim C B e h w) (hρ : OpdR e t ρ) (hx : opd X = some x) (hev : (AOp.nextS x).ev t.ev h = some (v, h')) : OpRes .eff C B e h w ((Go.execOp ρ o).run P w) v h' := by
  simp only [AOp.ev] at hev
  have vx := hρ _ _ hx
  split at hev
  · rename_i b hp
    rw [hp] at vx
    split at hev
    · rename_i l pos hb
      obtain ⟨lc, hl, hB, hlt, _⟩ := s.blk b _ hb
      obtain ⟨h1, h2, bs, hheap, hbs⟩ := hB
      obtain ⟨lc', hl', hu⟩ := vx.p_inv
      rw [hl] at hl'; cases hl'
      rw [h2] at hu
      simp only [Nat.zero_mul, Nat.add_zero] at hu
      have hget : (Go.getObj lc.cb).run P w = .ok (.stringIter bs pos) w := by simp [Go.getObj, Go.Sem.run, hheap]
      have hset : ∀ ob, (Go.setObj lc.cb ob).run P w = .ok () { w with heap := w.heap.setIfInBounds lc.cb ob } := by intro ob; simp [Go.setObj, Go.Sem.run, hheap]
      have hsz : bs.size = l.length := by rw [← hbs]; exact Array.length_toList.symm
      have hbb : (⟨l.toArray⟩ : ByteArray) = bs := by apply ByteArray.ext; rw [← hbs]
      split at hev
      · rename_i hpos
        rw [hbb] at hev
        simp at hev; obtain ⟨rfl, rfl⟩ := hev
        refine ⟨.tuple #[.bool true, .int .i64 pos, .int .i32 (Go.Utf8.decode bs pos).1], { w with heap := w.heap.setIfInBounds lc.cb (.stringIter bs (pos + (Go.Utf8.decode bs pos).2)) }, e, .inl ?_, ?_, ?_⟩
        · simp [Go.execOp, ho, hu, Go.Instr.next, hget, hsz, hpos, hset, Go.goInt]
        · exact .tup _ _ (.cons _ _ _ _ (.b _) (.cons _ _ _ _ (.i _ _) (.cons _ _ _ _ (.i _ _) .nil)))
        · refine Stp.set s hb rfl hl (fun c hc => ?_) (by simp) ⟨h1, h2, bs, by simp [hlt], hbs⟩
          simp only [Array.getElem?_setIfInBounds]
          rw [if_neg (fun hh => hc hh.symm)]
      · rename_i hpos
        simp at hev; obtain ⟨rfl, rfl⟩ := hev
        refine ⟨.tuple #[.bool false], w, e, .inl ?_, .tup _ _ (.cons _ _ _ _ (.b _) .nil), Stp.refl s⟩
        simp [Go.execOp, ho, hu, Go.Instr.next, hget, hsz, hpos]
    · simp at hev
  · simp at hev

theorem op_ext {X : Operand} {x : AOpd} {i : Nat} (ho : o.op = .extract X i) (s : Sim C B e h w) (hρ : OpdR e t ρ) (hx : opd X = some x) (hev : (AOp.ext x i).ev t.ev h = some (v, h')) : OpRes .pure C B e h w ((Go.execOp ρ o).run P w) v h' := by
  simp only [AOp.ev] at hev
  have vx := hρ _ _ hx
  split at hev
  · rename_i vs hp
    rw [hp] at vx
    obtain ⟨y, hy, hev⟩ := Option.bind_eq_some_iff.1 hev
    cases hev
    obtain ⟨ws, hX, hvs⟩ := vx.tup_inv
    obtain ⟨u, hu, hv⟩ := hvs.get i _ hy
    refine OpRes.pure s (u := u) ?_ hv
    have : ws[i]? = some u := by simpa using hu
    simp [Go.execOp, ho, hX, Go.Instr.extract, this]
  · simp at hev

end Am
