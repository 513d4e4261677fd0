/- AmDraw5: a region that draws its order comes to what the one order comes to. -/
import Derived.Test.YtibmhhdgcbaofaaDoorAmDraw4
namespace Am
set_option linter.unusedVariables false
set_option linter.unusedSimpArgs false
open Go (IntKind BinOp UnOp Value Program TypeId TypeDesc Operand Oper Code Tmp World Addr Obj Act Fence)

variable {P : Program} {B nt : Nat} {R : RunT} {ops : Array Oper} {L : List (Nat × AOper)} {T : Nat → Tm} {G : Nat → H} {K : Nat → List H} {vv : Nat → V}

/-! ### The places of the effects -/
theorem epos_at : ∀ {p q : Nat}, q ∈ epos L p → q < p ∧ ∃ (i : Nat) (x : AOper), L[q]? = some (i, x) ∧ x.op.kind = .eff
  | 0, q, h => by simp [epos] at h
  | p + 1, q, h => by
    unfold epos at h
    split at h
    · rename_i r hr
      obtain ⟨i, x⟩ := r
      split at h
      · rename_i hk
        rcases List.mem_cons.1 h with rfl | h
        · exact ⟨by omega, i, x, hr, by simpa using hk⟩
        · obtain ⟨h1, h2⟩ := epos_at h; exact ⟨by omega, h2⟩
      · obtain ⟨h1, h2⟩ := epos_at h; exact ⟨by omega, h2⟩
    · obtain ⟨h1, h2⟩ := epos_at h; exact ⟨by omega, h2⟩
theorem epos_mem : ∀ {p q i : Nat} {x : AOper}, q < p → L[q]? = some (i, x) → x.op.kind = .eff → q ∈ epos L p
  | 0, q, i, x, h, _, _ => by omega
  | p + 1, q, i, x, h, hq, hk => by
    unfold epos
    by_cases hqp : q = p
    · subst hqp
      rw [hq]
      simp [hk]
    · have := epos_mem (p := p) (by omega) hq hk
      split
      · split
        · exact List.mem_cons_of_mem _ this
        · exact this
      · exact this
theorem epos_desc : ∀ p, (epos L p).Pairwise (· > ·)
  | 0 => by simp [epos]
  | p + 1 => by
    unfold epos
    split
    · split
      · exact List.pairwise_cons.2 ⟨fun q hq => (epos_at hq).1, epos_desc p⟩
      · exact epos_desc p
    · exact epos_desc p

variable {e0 : Emb} {h0 : H} {w0 : World} {ds : List Go.Deferred} {listed : Array Bool} {a : Act} {w : World} {c : Nat} {ι : Emb}

theorem cut_mem (can : Can P nt R ops L T G K vv) (inv : Inv P B nt ops L T G e0 h0 w0 ds listed a w c ι) {i p : Nat} {x : AOper} {o : Oper} (tu : Turn P nt ops L T G listed a c ι i p x o) : G c ∈ (K p).take (x.look + 1) := by
  rw [can.kk p (Nat.le_of_lt tu.lt)]
  have hlook : ∀ q, (epos L p)[x.look]? = some q → q < c := fun q hq => by
    have hb := tu.bit _ (can.ord.look tu.hp hq)
    obtain ⟨h1, j, y, h2, h3⟩ := epos_at (List.mem_of_getElem? hq)
    simp only [idx, h2, Option.map_some, Option.getD_some] at hb
    exact inv.eff h2 h3 hb
  rcases inv.cin with rfl | ⟨q0, j, y, rfl, hq0, hk0⟩
  · have hlen : (epos L p).length ≤ x.look := Nat.le_of_not_lt fun hlt => by
      have := hlook _ (List.getElem?_eq_getElem hlt)
      omega
    rw [List.take_of_length_le (by simp; omega)]
    simp
  · obtain ⟨k, hk⟩ := List.mem_iff_getElem?.1 (epos_mem (p := p) tu.cp hq0 hk0)
    have hkl : k ≤ x.look := Nat.le_of_not_lt fun hlt => by
      obtain ⟨hk1, hk2⟩ := List.getElem?_eq_some_iff.1 hk
      have hl : x.look < (epos L p).length := by omega
      have h1 := hlook _ (List.getElem?_eq_getElem hl)
      have h2 := List.pairwise_iff_getElem.1 (epos_desc (L := L) p) x.look k hl hk1 hlt
      rw [hk2] at h2
      omega
    refine List.mem_of_getElem? (i := k) ?_
    rw [List.getElem?_take, if_pos (by omega), List.getElem?_append_left (by simp; exact (List.getElem?_eq_some_iff.1 hk).1), List.getElem?_map, hk]
    rfl

theorem compAct_op {o : Oper} {ao : AOp} (h : compAct P o = some (.op ao)) (hb : ao ≠ .bad) : compOp P o = some ao := by
  rcases compAct_cases h with h | h
  rotate_left
  · cases h; exact absurd rfl hb
  unfold compAct0 at h
  split at h
  · obtain ⟨f, _, h⟩ := Option.bind_eq_some_iff.1 h
    obtain ⟨xs, _, h⟩ := Option.map_eq_some_iff.1 h
    cases h
  · split at h
    · obtain ⟨f, _, h⟩ := Option.bind_eq_some_iff.1 h
      obtain ⟨xs, _, h⟩ := Option.map_eq_some_iff.1 h
      cases h
    · obtain ⟨y, hy, h⟩ := Option.map_eq_some_iff.1 h
      cases h; exact hy

theorem step_any (can : Can P nt R ops L T G K vv) (hR : RunOk P R) {F : Fence} (hF : wideF F) {n : Nat} (hB : B ≤ w0.heap.size) (inv : Inv P B nt ops L T G e0 h0 w0 ds listed a w c ι) {i : Nat} (hi : i ∈ Go.Region.ready .any ops listed)
    {K' : Act → World → Prop} {Q : Go.Exit → Act → World → Prop} (hk : ∀ a' w' c' ι', Inv P B nt ops L T G e0 h0 w0 ds (listed.setIfInBounds i true) a' w' c' ι' → K' a' w') : Go.wpOpIn F n P ops Q i K' a w := by
  obtain ⟨p, x, o, tu⟩ := turn can inv hi
  unfold Go.wpOpIn
  simp only [tu.ho]
  rw [tu.want]
  cases hw : x.wanted (T p) with
  | false =>
    rw [if_neg (by simp)]
    refine ⟨fun f _ => hF.1 f, ?_⟩
    obtain ⟨hvv, hst⟩ := can.unw tu.hp hw
    rw [← tu.dsto]
    by_cases heff : x.op.kind = .eff
    · have hall : ∀ {q j : Nat} {y : AOper}, q < p → L[q]? = some (j, y) → listed.getD j false = true := fun hq hy => tu.bit _ (can.ord.eff tu.hp heff hq hy)
      have sta := (adopt_all can hB inv tu.cp (Nat.le_of_lt tu.lt) hall).1
      obtain ⟨ι', hinv⟩ := inv_cut can hB inv tu heff (u := Go.undef) (e' := res ι (G p).nx) (w' := w) (by rw [hst]; exact Stp.refl sta.sim) (by rw [hvv]; exact VR.un)
      exact hk _ _ _ _ hinv
    · exact hk _ _ _ _ (inv_same can inv tu heff (Emb.le_refl ι) rfl (fun _ _ => rfl) (Nat.le_refl _) ⟨rfl, rfl, rfl⟩ (fun b l h => .inl h) (fun hm => absurd hm.2 (by simp [hw])) (by rw [hvv]; exact VR.un))
  | true =>
    rw [if_pos rfl]
    refine ⟨fun f _ => hF.1 f, ?_⟩
    rw [Go.Oper.semAt_eq _ _ _ (compAct_noDefer tu.act)]
    have hρ := cut_opd (inv.stp.sim.raise (can.mono tu.cp (Nat.le_of_lt tu.lt))).gl glOf_at tu.sl
    rw [cut_exec (compAct_noSelect tu.act) (ops := ops) (ds := looksOf ops o x) (fun d hd => by simp [looksOf, hd])]
    have htmp : ∀ d ∈ x.op.tmps, (T p).v d = (cutT (T p) (looksOf ops o x)).v d := fun d hd => by
      rw [cutT_v, if_pos (by simp [looksOf, hd])]
    obtain ⟨hev, hlk, _⟩ := can.wan tu.hp hw
    by_cases heff : x.op.kind = .eff
    · have hall : ∀ {q j : Nat} {y : AOper}, q < p → L[q]? = some (j, y) → listed.getD j false = true := fun hq hy => tu.bit _ (can.ord.eff tu.hp heff hq hy)
      have sta := (adopt_all can hB inv tu.cp (Nat.le_of_lt tu.lt) hall).1
      rw [evOp_congr htmp] at hev
      refine InvPost.upon hF.2.1 (act_sound hR tu.act sta.sim hρ hev (n - 1) hF) fun u w' ⟨e', hv, st⟩ => ?_
      obtain ⟨ι', hinv⟩ := inv_cut can hB inv tu heff st hv
      rw [tu.dsto] at hinv
      exact hk _ _ _ _ hinv
    · obtain ⟨ao, hao, hkk⟩ := can.op_of tu.hp heff
      have hco := compAct_op (hao ▸ tu.act) (fun hb => by rw [hao, hb] at hev; simp [evOp, AOp.ev] at hev)
      have hsim : Sim (CC P) B (res ι (G p).nx) ⟨(G p).nx, (G c).tr⟩ w := inv.stp.sim.raise (can.mono tu.cp (Nat.le_of_lt tu.lt))
      rw [hao] at hev htmp
      simp only [evOp] at hev
      have same : ∀ {v g' : _}, ao.kind ≠ .alloc → ao.kind ≠ .eff → ao.ev (T p).ev ⟨(G p).nx, (G c).tr⟩ = some (v, g') → v = vv p → o.uponIn F n P a K' Q ((Go.execOp (cutV a (looksOf ops o x)) o).run P w) := by
        intro v g' h1 h2 h3 hv
        subst hv
        rw [ev_congr htmp] at h3
        have hres := op_sound hco hsim hρ h3
        have hsame : ∃ u, (Go.execOp (cutV a (looksOf ops o x)) o).run P w = .ok (.value u) w ∧ VR (res ι (G p).nx) (vv p) u := by
          cases hkind : ao.kind with
          | pure => rw [hkind] at hres; exact hres.2
          | read => rw [hkind] at hres; exact hres.2
          | alloc => exact absurd hkind h1
          | eff => exact absurd hkind h2
        obtain ⟨u, hr, hvr⟩ := hsame
        rw [hr]
        have hnm : ¬ Made T p x := fun hm => h1 (by rw [hkk]; exact hm.1)
        have hinv := inv_same can inv tu heff (Emb.le_refl ι) rfl (w' := w) (u := u) (fun _ _ => rfl) (Nat.le_refl _) ⟨rfl, rfl, rfl⟩ (fun b l h => .inl h) (fun hm => absurd hm hnm) (by rw [can.still tu.hp heff hnm]; exact hvr)
        rw [tu.dsto] at hinv
        exact hk _ _ _ _ hinv
      cases hkind : ao.kind with
      | pure => exact same (by rw [hkind]; decide) (by rw [hkind]; decide) (ev_pure hkind hev).2 rfl
      | read =>
        have hm := cut_mem can inv tu
        have hl : lookOk x.op (T p).ev (vv p) ((K p).take (x.look + 1)) = true := by
          unfold looked at hlk
          rw [← hkk, hkind] at hlk
          exact hlk
        rw [hao] at hl
        have hl := List.all_eq_true.1 hl _ hm
        split at hl
        · rename_i v' g' hg
          have := V.beq_eq _ _ hl
          exact same (by rw [hkind]; decide) (by rw [hkind]; decide) (ev_read hkind hg (G p).nx).2 this.symm
        · cases hl
      | eff => rw [← hkk] at heff; exact absurd hkind heff
      | alloc =>
        have hmade : Made T p x := ⟨by rw [← hkk, hkind], hw⟩
        obtain ⟨ao', blk, hao', _, hG, hall⟩ := can.madeAt tu.hp hmade
        rw [hao] at hao'; cases hao'
        have h3 := hall (G c).tr
        rw [ev_congr htmp] at h3
        have hres := op_sound hco hsim hρ h3
        rw [hkind] at hres
        obtain ⟨u, w', obj, blk', l, hr, hlaid, hcb, hpush, hown, hblk, hvr⟩ := hres
        have hheap := laid_heap hlaid
        have := H.push_inj hpush; subst this
        rw [hr]
        have hnx := can.madeNx tu.hp hmade
        have hfresh : ι (G p).nx = none := by
          cases hl : ι (G p).nx with
          | none => rfl
          | some l =>
            exfalso
            rcases inv.dom hl with h1 | ⟨q, j, y, h1, h2, h3, h4, h5⟩
            · have := can.mono tu.cp (Nat.le_of_lt tu.lt); omega
            · have hql := (List.getElem?_eq_some_iff.1 h2).1
              rcases Nat.lt_trichotomy q p with h6 | h6 | h6
              · have h7 := can.madeNx h2 h4
                have h8 := can.mono (p := q + 1) (q := p) h6 (Nat.le_of_lt tu.lt)
                omega
              · subst h6
                rw [tu.hp] at h2; cases h2
                exact tu.nd h3
              · have h8 := can.mono (p := p + 1) (q := q) h6 (by omega)
                omega
        have hle : ι.le (ι.add (G p).nx l) := Emb.le_add l hfresh
        have hres1 : res (ι.add (G p).nx l) (G c).nx = res ι (G c).nx := by
          funext b
          simp only [res, Emb.add]
          have := can.mono tu.cp (Nat.le_of_lt tu.lt)
          by_cases hb : b < (G c).nx
          · rw [if_pos hb, if_pos hb, if_neg (by omega)]
          · rw [if_neg hb, if_neg hb]
        have hres2 : res (ι.add (G p).nx l) (G (p + 1)).nx = (res ι (G p).nx).add (G p).nx l := by
          funext b
          simp only [res, Emb.add]
          rw [hnx]
          by_cases hb : b = (G p).nx
          · subst hb; rw [if_pos (by omega), if_pos rfl, if_pos rfl]
          · by_cases hb2 : b < (G p).nx
            · rw [if_pos (by omega), if_neg hb, if_neg hb, if_pos hb2]
            · rw [if_neg (by omega), if_neg hb, if_neg hb2]
        have hinv := inv_same can inv tu heff hle hres1 (w' := w') (u := u) (fun b hb => by rw [hheap]; simp [Array.getElem?_push, Nat.ne_of_lt hb]) (by rw [hheap]; simp) (laid_sky hlaid)
          (fun b m hb => by
            unfold Emb.add at hb
            by_cases h1 : b = (G p).nx
            · exact .inr ⟨hmade, h1⟩
            · rw [if_neg h1] at hb; exact .inl hb)
          (fun _ => ⟨l, blk, Emb.add_same _ _ _, hG, hblk _ (by rw [hres2]; exact Emb.le_add l (by simp only [res]; rw [if_neg (by omega)])), hcb, by rw [hheap, hcb]; simp⟩)
          (by rw [hres2]; exact hvr)
        rw [tu.dsto] at hinv
        exact hk _ _ _ _ hinv

/-! ### All of them -/
theorem countP_lt {α : Type} {q q' : α → Bool} : ∀ {l : List α}, (∀ x ∈ l, q' x = true → q x = true) → (∃ x ∈ l, q x = true ∧ q' x = false) → l.countP q' < l.countP q
  | [], _, h => by obtain ⟨x, h, _⟩ := h; simp at h
  | y :: l, hle, h => by
    have hmono : l.countP q' ≤ l.countP q := List.countP_mono_left fun x hx => hle x (List.mem_cons_of_mem _ hx)
    obtain ⟨x, hx, h1, h2⟩ := h
    rcases List.mem_cons.1 hx with rfl | hx
    · rw [List.countP_cons, List.countP_cons, h1, h2]
      simp; omega
    · have ih := countP_lt (q := q) (q' := q') (l := l) (fun x hx => hle x (List.mem_cons_of_mem _ hx)) ⟨x, hx, h1, h2⟩
      rw [List.countP_cons, List.countP_cons]
      have := hle y (by simp)
      cases hy : q' y with
      | true => rw [this hy]; simp; omega
      | false => simp; omega

def left (ops : Array Oper) (listed : Array Bool) : Nat := (List.range ops.size).countP fun i => !listed.getD i false

theorem ready_some (can : Can P nt R ops L T G K vv) (inv : Inv P B nt ops L T G e0 h0 w0 ds listed a w c ι) (hr : Go.Region.ready .any ops listed = []) : ∀ {p i : Nat} {x : AOper}, L[p]? = some (i, x) → listed.getD i false = true := by
  intro p
  induction p using Nat.strongRecOn with
  | _ p ih =>
    intro i x hp
    refine Decidable.byContradiction fun hn => ?_
    obtain ⟨o, ho⟩ := can.ord.ok hp
    have hisz : i < ops.size := (Array.getElem?_eq_some_iff.1 ho).1
    have hlti : i < listed.size := by rw [inv.lsz]; exact hisz
    have : i ∈ Go.Region.ready .any ops listed := by
      refine Go.mem_ready.2 ⟨?_, o, ho, fun e he hb => ?_⟩
      · simp only [Array.getD_eq_getD_getElem?, Array.getElem?_eq_getElem hlti, Option.getD_some] at hn ⊢
        simpa using hn
      · obtain ⟨q, y, hq, hy⟩ := can.ord.pre hp (befores_edge ho he hb)
        exact ih q hq hy
    rw [hr] at this
    cases this

theorem any_sound (can : Can P nt R ops L T G K vv) (hR : RunOk P R) {F : Fence} (hF : wideF F) {n : Nat} (hB : B ≤ w0.heap.size) {Q : Go.Exit → Act → World → Prop}
    (hQ : ∀ listed a w c ι, Inv P B nt ops L T G e0 h0 w0 ds listed a w c ι → (∀ {p i : Nat} {x : AOper}, L[p]? = some (i, x) → listed.getD i false = true) → Q .normal a w) :
    ∀ (fuel : Nat) {listed : Array Bool} {a : Act} {w : World} {c : Nat} {ι : Emb}, Inv P B nt ops L T G e0 h0 w0 ds listed a w c ι → left ops listed ≤ fuel → Go.wpAnyIn F n P .any ops Q fuel listed a w
  | 0, listed, a, w, c, ι, inv, hl => by
    have hall : ∀ i, i < ops.size → listed.getD i false = true := fun i hi => by
      have h0 : left ops listed = 0 := by omega
      have := (List.countP_eq_zero.1 h0) i (List.mem_range.2 hi)
      simpa using this
    have hr : Go.Region.ready .any ops listed = [] := by
      refine List.eq_nil_iff_forall_not_mem.2 fun i hi => ?_
      obtain ⟨p, x, o, tu⟩ := turn can inv hi
      exact tu.nd (hall i (Array.getElem?_eq_some_iff.1 tu.ho).1)
    exact ⟨hr, hQ _ _ _ _ _ inv (ready_some can inv hr)⟩
  | fuel + 1, listed, a, w, c, ι, inv, hl => by
    refine ⟨fun hr => hQ _ _ _ _ _ inv (ready_some can inv hr), fun i hi => ?_⟩
    refine step_any can hR hF hB inv hi fun a' w' c' ι' hinv => any_sound can hR hF hB hQ fuel hinv ?_
    obtain ⟨p, x, o, tu⟩ := turn can inv hi
    have : left ops (listed.setIfInBounds i true) < left ops listed := by
      refine countP_lt (fun j _ hj => ?_) ⟨i, List.mem_range.2 (Array.getElem?_eq_some_iff.1 tu.ho).1, by have := tu.nd; simpa using this, ?_⟩
      · simp only [Bool.not_eq_true'] at hj ⊢
        cases h1 : listed.getD j false with
        | false => rfl
        | true => rw [(listed_set tu.lti j).2 (.inr h1)] at hj; cases hj
      · rw [(listed_set tu.lti i).2 (.inl rfl)]; rfl
    omega

/-! ### The region -/
theorem compD_at {bs effs : List Nat} : ∀ {is ahead : List Nat} {L : List (Nat × AOper)}, compD P nt ops bs effs ahead is = some L → ∀ {p i : Nat} {x : AOper} {o : Oper}, L[p]? = some (i, x) → ops[i]? = some o → ∃ k, compOper P nt ops k o = some x
  | [], ahead, L, h, p, i, x, o, hp, ho => by simp [compD] at h; subst h; simp at hp
  | i0 :: is, ahead, L, h, p, i, x, o, hp, ho => by
    unfold compD at h
    obtain ⟨o1, ho1, h⟩ := Option.bind_eq_some_iff.1 h
    obtain ⟨a1, ha1, h⟩ := Option.bind_eq_some_iff.1 h
    obtain ⟨as, has, h⟩ := Option.bind_eq_some_iff.1 h
    cases h
    cases p with
    | zero =>
      simp at hp
      obtain ⟨rfl, rfl⟩ := hp
      rw [ho1] at ho; cases ho
      exact ⟨_, ha1⟩
    | succ p => exact compD_at has (by simpa using hp) ho

theorem draw_sound {R : RunT} (hR : RunOk P R) : DrawSound P R := by
  intro nt ops as t t' h h' hmix hc hev F n N B e w a rs id hF s ht hd
  unfold compRegD at hc
  obtain ⟨L, hL, hc⟩ := Option.bind_eq_some_iff.1 hc
  split at hc
  · rename_i hchk
    simp only [Bool.and_eq_true] at hchk
    cases hc
    obtain ⟨T, G, K, vv, tr⟩ := trace hev
    have has : ∀ {p i : Nat} {x : AOper}, L[p]? = some (i, x) → (L.map (·.2))[p]? = some x := fun hp => by rw [List.getElem?_map, hp]; rfl
    have can : Can P nt R ops L T G K vv := by
      refine ⟨ordOk hchk.2, fun i hi => ?_, fun hp ho => compD_at hL hp ho, fun hp => tr.st _ _ (has hp), fun hp => tr.tt _ _ (has hp), ?_⟩
      · have := List.all_eq_true.1 hchk.1 i (List.mem_range.2 hi)
        simp only [List.contains_eq_mem, decide_eq_true_eq] at this
        obtain ⟨q, hq, rfl⟩ := List.mem_map.1 this
        obtain ⟨p, hp⟩ := List.mem_iff_getElem?.1 hq
        exact ⟨p, q.2, hp⟩
      · intro p hp
        induction p with
        | zero => simp [epos, tr.k0, tr.g0]
        | succ p ih =>
          have hlt : p < L.length := hp
          obtain ⟨⟨i, x⟩, hx⟩ : ∃ q, L[p]? = some q := ⟨L[p], List.getElem?_eq_getElem hlt⟩
          rw [tr.kk p x (has hx), ih (by omega)]
          simp only [epos, hx, behind]
          cases hk : x.op.kind <;> simp
    refine Go.wpIn_region_any hmix ?_
    have hse : res e h.nx = e := by
      funext b
      simp only [res]
      cases hb : e b with
      | none => simp
      | some l => rw [if_pos (s.dom _ _ hb)]
    have inv0 : Inv P B nt ops L T G e h w a.defers (Array.replicate ops.size false) a { w with drawn := w.drawn + 1 } 0 e := by
      have hno : ∀ i, (Array.replicate ops.size false).getD i false = false := fun i => by
        simp only [Array.getD_eq_getD_getElem?, Array.getElem?_replicate]
        split <;> rfl
      have hno' : ∀ {i}, (Array.replicate ops.size false).getD i false = true → False := fun hi => by rw [hno] at hi; cases hi
      refine ⟨by simp, fun i hi => (hno' hi).elim, Nat.zero_le _, fun _ h0 => by omega, fun _ _ hi => (hno' hi).elim, .inl rfl, ?_, fun {b l} hb => .inl ?_, fun _ _ hi => (hno' hi).elim, fun _ _ hi => (hno' hi).elim, fun d => ?_, ht.size, rfl⟩
      · rw [tr.g0, hse]
        exact Stp.more s (fun _ _ => rfl) (Nat.le_refl _)
      · rw [tr.g0]; exact s.dom _ _ hb
      · refine ⟨0, Nat.zero_le _, .inl rfl, fun _ _ hi => (hno' hi).elim, ?_⟩
        rw [tr.g0, tr.t0, hse]
        exact ht.get d
    refine any_sound can hR hF s.low ?_ ops.size inv0 ?_
    · intro listed a' w' c ι inv hall
      obtain ⟨st, _⟩ := adopt_all can s.low inv inv.cle (Nat.le_refl _) (fun _ hx => hall hx)
      have hte : T L.length = t' := by have := tr.te; simpa using this
      have hge : G L.length = h' := by have := tr.ge; simpa using this
      rw [hge] at st
      refine ⟨trivial, res ι h'.nx, rs, ⟨inv.tsz, fun d => ?_⟩, st, by rw [inv.dfr]; exact hd.step st⟩
      obtain ⟨m, h1, _, h3, h4⟩ := inv.slot d
      have hT : ∀ k, m ≤ k → k ≤ L.length → (T k).v d = (T m).v d := by
        intro k hk
        induction hk with
        | refl => intro _; rfl
        | @step k hk ih =>
          intro hkp
          have hkl : k < L.length := hkp
          obtain ⟨⟨j, y⟩, hq⟩ : ∃ q, L[k]? = some q := ⟨L[k], List.getElem?_eq_getElem hkl⟩
          rw [can.tt hq, ← ih (by omega)]
          have hne := h3 hk hq (hall hq)
          cases hyd : y.dst with
          | none => rfl
          | some d' =>
            simp only [Tm.pd, Tm.v_st]
            rw [if_neg (fun hh => hne (by rw [hyd, hh]))]
      rw [← hte, hT _ h1 (Nat.le_refl _)]
      have := h4.mono (res_le (can.mono h1 (Nat.le_refl _)))
      rw [hge] at this
      exact this
    · unfold left
      have := List.countP_le_length (p := fun i => !(Array.replicate ops.size false).getD i false) (l := List.range ops.size)
      simpa using this
  · cases hc

end Am
