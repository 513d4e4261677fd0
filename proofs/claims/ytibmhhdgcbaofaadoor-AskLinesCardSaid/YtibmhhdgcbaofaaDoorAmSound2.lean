/- AmSound2: control, loops, ranges over functions, rounds, functions: what the abstract machine does, the model does. -/
import Derived.Test.YtibmhhdgcbaofaaDoorAmSound
import Derived.Scope
namespace Am
set_option linter.unusedVariables false
set_option linter.unusedSimpArgs false
open Go (IntKind BinOp UnOp Value Program TypeId TypeDesc Operand Oper Code Tmp World Addr Obj Act Fence)

variable {P : Program} {B : Nat} {e e' : Emb} {h h' : H} {w w' : World} {nt N : Nat}

/-- Of a region that draws its order. -/
def DrawSound (P : Program) (R : RunT) : Prop := ∀ (nt : Nat) (ops : Array Oper) (as : List AOper) (t t' : Tm) (h h' : H), P.follows .mixedOrders = true → compRegD P nt ops = some as → evOpsD R as t h [h] = some (t', h') →
  ∀ (F : Fence) (n N B : Nat) (e : Emb) (w : World) (a : Act) (rs : List Nat) (id : Nat), wideF F → Sim (CC P) B e h w → TR e nt t a → DefOk N e h w a.defers rs →
    (Code.region id ops true).wpIn F n P (Post P B nt N e h w .normal t' h') a w

theorem Post.before {x : Ex} {t' : Tm} {h1 h2 : H} {e1 : Emb} {w1 : World} (s : Stp (CC P) B e h w e1 h1 w1) {E : Go.Exit} {a : Act} {w2 : World} (hp : Post P B nt N e1 h1 w1 x t' h2 E a w2) :
    Post P B nt N e h w x t' h2 E a w2 := by
  obtain ⟨h1, e2, rs, h2, h3, h4⟩ := hp
  exact ⟨h1, e2, rs, h2, s.trans h3, h4⟩

/-- A block of one's own, made since, is given up. -/
theorem Stp.drop {C : Cx} (st : Stp C B e h w e' h' w') {b : Nat} {x : Blk} {l : Loc} (hb : h'.get b = some x) (hown : x.own = true) (hl : e' b = some l) (hnew : w.heap.size ≤ l.cb) (o : Obj) :
    Stp C B e h w e' (h'.kill b) (w'.putObj l.cb o) := by
  have gk : ∀ c y, (h'.kill b).get c = some y → c ≠ b ∧ h'.get c = some y := by
    intro c y hc
    rw [H.get_kill] at hc
    by_cases hcb : c = b
    · rw [if_pos hcb] at hc; cases hc
    · rw [if_neg hcb] at hc; exact ⟨hcb, hc⟩
  refine ⟨st.le, (st.sim.kill b).of_heap (fun c y m hc hm => ?_) (Nat.le_of_eq Go.World.putObj_size.symm), fun c ho => ?_, fun c ho => ?_, fun c hc ho => ?_, by rw [Go.World.putObj_size]; exact st.grow, st.nx, st.sky.trans ⟨rfl, rfl, rfl⟩⟩
  · obtain ⟨hne, hc'⟩ := gk c y hc
    exact Go.World.putObj_heap_other (Ne.symm (st.sim.inj b c x y l m hb hc' hown (Ne.symm hne) hl hm))
  · obtain ⟨c', y, m, hc', hy, hm, rfl⟩ := ho
    exact st.own _ ⟨c', y, m, (gk _ _ hc').2, hy, hm, rfl⟩
  · obtain ⟨c', y, m, hc', hm, rfl⟩ := ho
    exact st.img _ ⟨c', y, m, (gk _ _ hc').2, hm, rfl⟩
  · rw [Go.World.putObj_heap_other (by omega)]
    exact st.keep c hc ho

/-- A block that the machine does not know, made since, is written. -/
theorem Stp.aside {C : Cx} (st : Stp C B e h w e' h' w') {r : Nat} (hr : ¬ Img e' h' r) (hnew : w.heap.size ≤ r) (o : Obj) : Stp C B e h w e' h' (w'.putObj r o) := by
  refine ⟨st.le, st.sim.of_heap (fun c y m hc hm => ?_) (Nat.le_of_eq Go.World.putObj_size.symm), st.own, st.img, fun c hc ho => ?_, by rw [Go.World.putObj_size]; exact st.grow, st.nx, st.sky.trans ⟨rfl, rfl, rfl⟩⟩
  · exact Go.World.putObj_heap_other (fun hh => hr ⟨c, y, m, hc, hm, hh⟩)
  · rw [Go.World.putObj_heap_other (by omega)]
    exact st.keep c hc ho

theorem loop_blk (s : Sim (CC P) B e h w) {b : Nat} {L : LoopSt} (hb : h.get b = some (.loop L)) : ∃ l r, e b = some l ∧ w.heap[l.cb]? = some (.loop r) ∧ LoopR e L r ∧ CC P L.nt r.assign L.assign ∧ CC P L.nt r.body L.body ∧ l.cb < w.heap.size := by
  obtain ⟨l, hl, ⟨r, hr, hL, h1, h2⟩, hlt, _⟩ := s.blk b _ hb
  exact ⟨l, r, hl, hr, hL, h1, h2, hlt⟩

/-- What entering a range over a function lays. -/
theorem enter_sound (s : Sim (CC P) B e h w) {F : Fence} {ar : Option Nat} (har : AroundR e F ar) (hok : aroundOk h ar = true) {t : Tm} {a : Act} (ht : TR e nt t a) {rs : List Nat} (hd : DefOk N e h w a.defers rs) (hN : N ≤ w.heap.size)
    {ps : Array Tmp} (hps : ps.all (fun p => decide (p < nt)) = true) {assign body : Code} {x y : ACode} (hx : compC P nt assign = some x) (hy : compC P nt body = some y) (fn : Nat) :
    ∃ l mark w1 rs1, (Go.Instr.enterLoop fn a.tmps ps assign body F.round).run P w = .ok (l, mark) w1 ∧ w.heap.size ≤ l ∧
      Stp (CC P) B e h w (e.add h.nx ⟨l, 0, 1, 0⟩) (h.push (.loop { st := .ready, pend := .normal, tm := t, nt := nt, params := ps.toList, assign := x, body := y })) w1 ∧
      DefOk N (e.add h.nx ⟨l, 0, 1, 0⟩) (h.push (.loop { st := .ready, pend := .normal, tm := t, nt := nt, params := ps.toList, assign := x, body := y })) w1 (mark ++ a.defers) rs1 := by
  have hloop : ∀ (l d : Nat) (w1 : World), w1.heap[l]? = some (.loop { state := .ready, pending := none, fn := fn, tmps := a.tmps, params := ps, assign := assign, body := body, defers := d }) →
      BlkR (CC P) (e.add h.nx ⟨l, 0, 1, 0⟩) (.loop { st := .ready, pend := .normal, tm := t, nt := nt, params := ps.toList, assign := x, body := y }) ⟨l, 0, 1, 0⟩ w1 := fun l d w1 hl => by
    have hle : e.le (e.add h.nx ⟨l, 0, 1, 0⟩) := Emb.le_add _ s.fresh
    refine ⟨_, hl, ⟨rfl, rfl, ht.size, fun n => (ht.get n).mono hle, rfl, fun p hp => ?_⟩, hx, hy⟩
    have := Array.all_eq_true_iff_forall_mem.1 hps p (by simpa using hp)
    simpa using this
  cases ar with
  | none =>
    have hro : F.round = none := har
    rw [hro]
    refine ⟨_, _, _, w.heap.size :: rs, Go.run_enterLoop_outer (w := w) fn a.tmps ps assign body, by omega, ?_⟩
    generalize hw1 : ((w.alloc (.deferred (some []))).alloc (.loop { state := .ready, pending := none, fn, tmps := a.tmps, params := ps, assign, body, defers := w.heap.size })) = w1
    have hhp : w1.heap = (w.heap.push (.deferred (some []))).push (.loop { state := .ready, pending := none, fn, tmps := a.tmps, params := ps, assign, body, defers := w.heap.size }) := by subst hw1; rfl
    have hsky : Sky w w1 := by subst hw1; exact ⟨rfl, rfl, rfl⟩
    clear hw1
    have hsz : w1.heap.size = w.heap.size + 2 := by rw [hhp]; simp
    have hold : ∀ c, c < w.heap.size → w1.heap[c]? = w.heap[c]? := fun c hc => by
      rw [hhp, Array.getElem?_push, Array.size_push, if_neg (by omega), Array.getElem?_push, if_neg (by omega)]
    have hl : w1.heap[w.heap.size + 1]? = some (.loop { state := .ready, pending := none, fn := fn, tmps := a.tmps, params := ps, assign := assign, body := body, defers := w.heap.size }) := by
      rw [hhp, Array.getElem?_push, Array.size_push, if_pos rfl]
    have hdd : w1.heap[w.heap.size]? = some (.deferred (some [])) := by
      rw [hhp, Array.getElem?_push, Array.size_push, if_neg (by omega), Array.getElem?_push, if_pos rfl]
    have st := Stp.push s _ ⟨w.heap.size + 1, 0, 1, 0⟩ (w' := w1) (by simp) hold (by simp [hsz]) (hloop _ _ _ hl) hsky
    refine ⟨st, ?_⟩
    have hd1 := hd.step st
    have himg : ¬ Img (e.add h.nx ⟨w.heap.size + 1, 0, 1, 0⟩) (h.push (.loop { st := .ready, pend := .normal, tm := t, nt := nt, params := ps.toList, assign := x, body := y })) w.heap.size := by
      rintro ⟨b, z, m, hb, hm, hcb⟩
      rw [H.get_push] at hb
      by_cases hbn : b = h.nx
      · subst hbn; rw [Emb.add_same] at hm; cases hm; simp at hcb
      · rw [if_neg hbn] at hb
        obtain ⟨m', hm', _, hlt, _⟩ := s.blk b z hb
        have : e.add h.nx ⟨w.heap.size + 1, 0, 1, 0⟩ b = some m' := Emb.le_add _ s.fresh _ _ hm'
        rw [this] at hm; cases hm; omega
    refine ⟨by simp [hd1.eq], List.nodup_cons.2 ⟨fun hm => ?_, hd1.nd⟩, fun r hr => ?_⟩
    · have := (hd.at_ _ hm).2.1; omega
    · rcases List.mem_cons.1 hr with rfl | hr
      · exact ⟨hdd, by omega, himg, hN⟩
      · exact hd1.at_ r hr
  | some l0 =>
    obtain ⟨loc, hloc, hro⟩ := har
    simp only [aroundOk] at hok
    split at hok
    · rename_i L0 hg
      obtain ⟨loc', r0, hloc', hr0, _⟩ := loop_blk s hg
      rw [hloc] at hloc'; cases hloc'
      rw [hro]
      refine ⟨_, _, _, rs, Go.run_enterLoop_inner (w := w) hr0 fn a.tmps ps assign body, Nat.le_refl _, ?_⟩
      generalize hw1 : (w.alloc (.loop { state := .ready, pending := none, fn, tmps := a.tmps, params := ps, assign, body, defers := r0.defers })) = w1
      have hhp : w1.heap = w.heap.push (.loop { state := .ready, pending := none, fn, tmps := a.tmps, params := ps, assign, body, defers := r0.defers }) := by subst hw1; rfl
      have hsky : Sky w w1 := by subst hw1; exact ⟨rfl, rfl, rfl⟩
      clear hw1
      have hold : ∀ c, c < w.heap.size → w1.heap[c]? = w.heap[c]? := fun c hc => by
        rw [hhp, Array.getElem?_push, if_neg (by omega)]
      have hl : w1.heap[w.heap.size]? = some (.loop { state := .ready, pending := none, fn := fn, tmps := a.tmps, params := ps, assign := assign, body := body, defers := r0.defers }) := by
        rw [hhp, Array.getElem?_push, if_pos rfl]
      have st := Stp.push s _ ⟨w.heap.size, 0, 1, 0⟩ (w' := w1) (by simp) hold (by rw [hhp]; simp) (hloop _ _ _ hl) hsky
      exact ⟨st, by simpa using hd.step st⟩
    · simp at hok

theorem stepR_scope {b : Go.Frame} {a : Act} {k : List Go.Item} {cs : List Go.Frame} {w : World} {c : Code} : Go.step P (Go.lone (b.atR a (.code (.scope c) :: k)) cs w) = .next (Go.lone (b.atR a (.code c :: .inScope c :: k)) cs w) :=
  Go.step_lone_go (by simp [Go.stepG, Go.stepG.exec, Go.Frame.atR])
theorem stepR_inScope {b : Go.Frame} {a : Act} {k : List Go.Item} {cs : List Go.Frame} {w : World} {c : Code} : Go.step P (Go.lone (b.atR a (.inScope c :: k)) cs w) = .next (Go.lone (b.atR a k) cs w) :=
  Go.step_lone_go (by simp [Go.stepG, Go.stepG.exec, Go.Frame.atR])
theorem wpIn_scope {F : Fence} {n : Nat} {Q : Go.Exit → Act → World → Prop} {a : Act} {w : World} {c : Code} (h : c.wpIn F n P (Go.Exit.noGoto Q) a w) : (Code.scope c).wpIn F n P Q a w := by
  intro b k cs hro hb hr
  have h0 : (Go.lone (b.atR a (.code (.scope c) :: k)) cs w).fenced P F := Go.fenced_calm hb hr rfl
  obtain ⟨e, a₁, w₁, hq, harr⟩ := h b (.inScope c :: k) cs hro hb hr
  cases e with
  | normal => exact ⟨.normal, a₁, w₁, hq, .head h0 stepR_scope (Go.StepsIn.trans harr (.one (Go.fenced_calm hb hr rfl) stepR_inScope))⟩
  | exit id =>
    have hx : Go.exitTo id (.inScope c :: k) = Go.exitTo id k := by simp [Go.exitTo]
    exact ⟨.exit id, a₁, w₁, hq, fun k' hk => .head h0 stepR_scope (harr.1 k' (by rw [hx]; exact hk)),
      fun hr' hk => let ⟨k₁, h1, h2⟩ := harr.2 hr' (by rw [hx]; exact hk); ⟨k₁, h1, .head h0 stepR_scope h2⟩⟩
  | goto l => exact hq.elim
  | ret => exact ⟨_, a₁, w₁, hq, .of_steps (.one h0 stepR_scope) harr⟩
  | panic ch => exact ⟨_, a₁, w₁, hq, .of_steps (.one h0 stepR_scope) harr⟩
  | outgrown => exact ⟨_, a₁, w₁, hq, .of_steps (.one h0 stepR_scope) harr⟩

theorem roundsIn_mono {F : Fence} {n : Nat} {c : Code} {Q Q' : Go.Exit → Act → World → Prop} (hq : ∀ E a w, Q E a w → Q' E a w) : ∀ {m : Nat} {a : Act} {w : World}, Code.roundsIn F n P c Q m a w → Code.roundsIn F n P c Q' m a w
  | 0, _, _, h => h
  | m + 1, a, w, h => Go.wpIn_mono h fun E a w hh => by
    cases E <;> first
      | exact roundsIn_mono hq hh
      | exact hq _ _ _ hh

theorem evA_sound {R : RunT} (hR : RunOk P R) (hD : DrawSound P R) (k : Nat) {ar : Option Nat} {F : Fence} {n : Nat} (hF : wideF F) : ∀ (c : Code) {ac : ACode} {t t' : Tm} {h h' : H} {x : Ex} {e : Emb} {w : World} {a : Act} {rs : List Nat},
    compC P nt c = some ac → evA R (fun b s => iter b k s) nt ar ac t h = some (x, t', h') → AroundR e F ar → N ≤ w.heap.size → Sim (CC P) B e h w → TR e nt t a → DefOk N e h w a.defers rs →
    c.wpIn F n P (Post P B nt N e h w x t' h') a w := by
  intro c
  induction c with
  | skip =>
    intro ac t t' h h' x e w a rs hc hev har hN s ht hd
    simp [compC] at hc; subst hc; simp [evA] at hev; obtain ⟨rfl, rfl, rfl⟩ := hev
    exact Go.wpIn_skip ⟨trivial, e, rs, ht, Stp.refl s, hd⟩
  | label l =>
    intro ac t t' h h' x e w a rs hc hev har hN s ht hd
    simp [compC] at hc; subst hc; simp [evA] at hev; obtain ⟨rfl, rfl, rfl⟩ := hev
    exact Go.wpIn_label ⟨trivial, e, rs, ht, Stp.refl s, hd⟩
  | region id ops draw =>
    intro ac t t' h h' x e w a rs hc hev har hN s ht hd
    unfold compC at hc
    cases draw with
    | true =>
      simp only [if_true] at hc
      split at hc
      · rename_i hok
        obtain ⟨as, has, rfl⟩ := Option.map_eq_some_iff.1 hc
        simp only [evA] at hev
        obtain ⟨⟨t1, h1⟩, hev1, hev⟩ := Option.bind_eq_some_iff.1 hev
        simp at hev; obtain ⟨rfl, rfl, rfl⟩ := hev
        exact hD nt ops as t t1 h h1 hok has hev1 F n N B e w a rs id hF s ht hd
      · simp at hc
    | false =>
      simp only [Bool.false_eq_true, if_false] at hc
      obtain ⟨as, has, rfl⟩ := Option.map_eq_some_iff.1 hc
      simp only [evA] at hev
      obtain ⟨⟨t1, h1⟩, hev1, hev⟩ := Option.bind_eq_some_iff.1 hev
      simp at hev; obtain ⟨rfl, rfl, rfl⟩ := hev
      exact Go.wpIn_region_list (evOps_sound hR hF has hev1 s ht hd fun e' a' w' rs' h1 h2 h3 => ⟨trivial, e', rs', h1, h2, h3⟩)
  | seq c1 c2 ih1 ih2 =>
    intro ac t t' h h' x e w a rs hc hev har hN s ht hd
    unfold compC at hc
    obtain ⟨x1, hx1, hc⟩ := Option.bind_eq_some_iff.1 hc
    obtain ⟨x2, hx2, hc⟩ := Option.bind_eq_some_iff.1 hc
    cases hc
    simp only [evA] at hev
    obtain ⟨⟨y, t1, h1⟩, hev1, hev⟩ := Option.bind_eq_some_iff.1 hev
    refine Go.wpIn_seq (Go.wpIn_mono (ih1 hx1 hev1 har hN s ht hd) fun E a1 w1 hp => ?_)
    obtain ⟨hE, e1, rs1, ht1, hs1, hd1⟩ := hp
    cases y with
    | normal =>
      cases E <;> simp [ExR] at hE
      exact Go.wpIn_mono (ih2 hx2 hev (har.mono hs1.le) (Nat.le_trans hN hs1.grow) hs1.sim ht1 hd1) fun E a2 w2 hp => hp.before hs1
    | exit i =>
      simp at hev; obtain ⟨rfl, rfl, rfl⟩ := hev
      cases E <;> simp [ExR] at hE
      exact ⟨hE, e1, rs1, ht1, hs1, hd1⟩
    | ret =>
      simp at hev; obtain ⟨rfl, rfl, rfl⟩ := hev
      cases E <;> simp [ExR] at hE
      exact ⟨trivial, e1, rs1, ht1, hs1, hd1⟩
  | cond c c1 c2 ih1 ih2 =>
    intro ac t t' h h' x e w a rs hc hev har hN s ht hd
    unfold compC at hc
    obtain ⟨z, hz, hc⟩ := Option.bind_eq_some_iff.1 hc
    obtain ⟨x1, hx1, hc⟩ := Option.bind_eq_some_iff.1 hc
    obtain ⟨x2, hx2, hc⟩ := Option.bind_eq_some_iff.1 hc
    cases hc
    simp only [evA] at hev
    have hv := ht.opd s.gl glOf_at hz
    split at hev
    · rename_i v hv'
      rw [hv'] at hv
      refine Go.wpIn_cond hv.b_inv ?_
      cases v with
      | true => exact ih1 hx1 (by simpa using hev) har hN s ht hd
      | false => exact ih2 hx2 (by simpa using hev) har hN s ht hd
    · simp at hev
  | block id c ih =>
    intro ac t t' h h' x e w a rs hc hev har hN s ht hd
    unfold compC at hc
    obtain ⟨x1, hx1, rfl⟩ := Option.map_eq_some_iff.1 hc
    simp only [evA] at hev
    obtain ⟨⟨y, t1, h1⟩, hev1, hev⟩ := Option.bind_eq_some_iff.1 hev
    refine Go.wpIn_block (Go.wpIn_mono (ih hx1 hev1 har hN s ht hd) fun E a1 w1 hp => ?_)
    obtain ⟨hE, e1, rs1, ht1, hs1, hd1⟩ := hp
    cases y with
    | normal =>
      simp at hev; obtain ⟨rfl, rfl, rfl⟩ := hev
      cases E <;> simp [ExR] at hE
      exact ⟨trivial, e1, rs1, ht1, hs1, hd1⟩
    | exit i =>
      cases E with
      | exit j =>
        simp only [ExR] at hE; subst hE
        simp only [Go.Exit.inBlock]
        by_cases hi : i = id
        · simp [hi] at hev; obtain ⟨rfl, rfl, rfl⟩ := hev
          rw [if_pos hi]
          exact ⟨trivial, e1, rs1, ht1, hs1, hd1⟩
        · simp [hi] at hev; obtain ⟨rfl, rfl, rfl⟩ := hev
          rw [if_neg hi]
          exact ⟨rfl, e1, rs1, ht1, hs1, hd1⟩
      | _ => simp [ExR] at hE
    | ret =>
      simp at hev; obtain ⟨rfl, rfl, rfl⟩ := hev
      cases E <;> simp [ExR] at hE
      exact ⟨trivial, e1, rs1, ht1, hs1, hd1⟩
  | loop c ih =>
    intro ac t t' h h' x e w a rs hc hev har hN s ht hd
    unfold compC at hc
    obtain ⟨x1, hx1, rfl⟩ := Option.map_eq_some_iff.1 hc
    simp only [evA] at hev
    refine Go.wpIn_loop_rounds k ?_
    have key : ∀ (m : Nat) {t t' : Tm} {h h' : H} {x : Ex} {e : Emb} {w : World} {a : Act} {rs : List Nat},
        iter (fun s => (evA R (fun b s => iter b k s) nt ar x1 s.1 s.2).bind fun r => match r.1 with
          | .normal => some (none, r.2)
          | e => some (some e, r.2)) m (t, h) = some (x, t', h') → AroundR e F ar → N ≤ w.heap.size → Sim (CC P) B e h w → TR e nt t a → DefOk N e h w a.defers rs →
        Code.roundsIn F n P c (Post P B nt N e h w x t' h') m a w := by
      intro m
      induction m with
      | zero => intro t t' h h' x e w a rs hev; simp [iter] at hev
      | succ m ihm =>
        intro t t' h h' x e w a rs hev har hN s ht hd
        unfold iter at hev
        obtain ⟨⟨y, t1, h1⟩, hev1, hev⟩ := Option.bind_eq_some_iff.1 hev
        obtain ⟨⟨y', t2, h2⟩, hev2, hev3⟩ := Option.bind_eq_some_iff.1 hev1
        rw [Go.roundsIn_succ]
        refine Go.wpIn_mono (ih hx1 hev2 har hN s ht hd) fun E a1 w1 hp => ?_
        obtain ⟨hE, e1, rs1, ht1, hs1, hd1⟩ := hp
        cases y' with
        | normal =>
          simp at hev3; obtain ⟨rfl, rfl, rfl⟩ := hev3
          cases E <;> simp [ExR] at hE
          have hr := ihm hev (har.mono hs1.le) (Nat.le_trans hN hs1.grow) hs1.sim ht1 hd1
          simp only [Go.Exit.then]
          exact roundsIn_mono (fun E a2 w2 hp => hp.before hs1) hr
        | exit i =>
          simp at hev3; obtain ⟨rfl, rfl, rfl⟩ := hev3
          simp at hev; obtain ⟨rfl, rfl, rfl⟩ := hev
          cases E <;> simp [ExR] at hE
          exact ⟨hE, e1, rs1, ht1, hs1, hd1⟩
        | ret =>
          simp at hev3; obtain ⟨rfl, rfl, rfl⟩ := hev3
          simp at hev; obtain ⟨rfl, rfl, rfl⟩ := hev
          cases E <;> simp [ExR] at hE
          exact ⟨trivial, e1, rs1, ht1, hs1, hd1⟩
    exact key k hev har hN s ht hd
  | rangeFunc f ps assign body ih1 ih2 =>
    intro ac t t' h h' x e w a rs hc hev har hN s ht hd
    unfold compC at hc
    split at hc
    · rename_i hps
      obtain ⟨z, hz, hc⟩ := Option.bind_eq_some_iff.1 hc
      obtain ⟨x1, hx1, hc⟩ := Option.bind_eq_some_iff.1 hc
      obtain ⟨x2, hx2, hc⟩ := Option.bind_eq_some_iff.1 hc
      cases hc
      simp only [evA] at hev
      have hfv := ht.opd s.gl glOf_at hz
      split at hev
      · rename_i hok
        split at hev
        · rename_i fc caps hfe
          rw [hfe] at hfv
          generalize hu : a.eval f = u at hfv
          obtain ⟨⟨v, h1⟩, hcall, hev⟩ := Option.bind_eq_some_iff.1 hev
          refine Go.wpIn_rangeFunc fun fn _ => ?_
          obtain ⟨l, mark, w1, rs1, hen, hl, st, hd1⟩ := enter_sound s har hok ht hd hN hps hx1 hx2 fn
          cases hfv with
          | fn _ _ ws hws =>
            have hyl : VR (e.add h.nx ⟨l, 0, 1, 0⟩) (.f (.yl h.nx) []) (.func (.yield l) #[] #[]) := .yl h.nx ⟨l, 0, 1, 0⟩ (Emb.add_same _ _ _)
            have hargs : VRL (e.add h.nx ⟨l, 0, 1, 0⟩) ([.f (.yl h.nx) []] ++ caps) (#[.func (.yield l) #[] #[]] ++ ws : Array Value).toList := by
              simpa using VRL.cons _ _ _ _ hyl (hws.mono st.le)
            obtain ⟨hinv, hent⟩ := hR _ _ _ _ _ hcall B _ w1 _ F (n - 1) hargs st.sim hF
            have hent := hent rfl
            rw [hent] at hinv
            refine ⟨l, mark, w1, { target := .fn (.func fc) ws, args := #[.func (.yield l) #[] #[]] }, w1, fc, _, w1, hen, ?_, fun g _ => hF.1 g, ?_, fun hh => absurd hh (by simp [hF.2.1]), Go.CallsIn.mono hinv ?_⟩
            · have hce : ∀ v, a.eval (.const v) = v := fun _ => rfl
              simp [Go.resolve, hu, hce, Go.Deferred.ofValue]
            · simpa [Go.invoke] using hent w1
            · rintro E w3 ⟨u, rfl, e3, hv3, st3⟩
              simp only [Go.rangePost]
              simp only at hev
              split at hev
              · rename_i L hL
                split at hev
                · simp at hev
                · rename_i hbusy
                  simp at hev
                  obtain ⟨rfl, rfl, rfl⟩ := hev
                  obtain ⟨loc, r, hloc, hr, hLR, _, _, hlt⟩ := loop_blk st3.sim hL
                  have hloc' : e3 h.nx = some ⟨l, 0, 1, 0⟩ := st3.le _ _ (Emb.add_same _ _ _)
                  rw [hloc] at hloc'; cases hloc'
                  have hrb : r.state ≠ .busy := by
                    have := hLR.1
                    cases hst : L.st <;> simp_all
                  refine ⟨_, _, Go.run_endLoop hr hrb, ?_⟩
                  have stf := (st.trans st3).drop hL rfl hloc hl (.loop { r with state := .exhausted })
                  have hd3 := hd1.step st3
                  have hdf : DefOk N e3 (h1.kill h.nx) (w3.putObj l (.loop { r with state := .exhausted })) (mark ++ a.defers) rs1 := by
                    refine ⟨hd3.eq, hd3.nd, fun q hq => ?_⟩
                    obtain ⟨k1, k2, k3, k4⟩ := hd3.at_ q hq
                    have hne : q ≠ l := fun hh => k3 (hh ▸ ⟨_, _, _, hL, hloc, rfl⟩)
                    refine ⟨by rw [Go.World.putObj_heap_other hne]; exact k1, by rw [Go.World.putObj_size]; exact k2, fun hi => k3 ?_, k4⟩
                    obtain ⟨c', y, m, hc', hm, hcb⟩ := hi
                    rw [H.get_kill] at hc'
                    by_cases hcb' : c' = h.nx
                    · rw [if_pos hcb'] at hc'; cases hc'
                    · rw [if_neg hcb'] at hc'; exact ⟨c', y, m, hc', hm, hcb⟩
                  have htf : TR e3 nt t { a with defers := mark ++ a.defers } := ⟨ht.size, fun q => (ht.get q).mono stf.le⟩
                  have hpend := hLR.2.1
                  change Stp (CC P) B e h w e3 (h1.kill h.nx) (w3.putObj l (.loop { r with state := .exhausted })) at stf
                  change match r.pending with
                    | none => Post P B nt N e h w L.pend t (h1.kill h.nx) .normal { a with defers := mark ++ a.defers } (w3.putObj l (.loop { r with state := .exhausted }))
                    | some c => c.wpIn F n P (Post P B nt N e h w L.pend t (h1.kill h.nx)) { a with defers := mark ++ a.defers } (w3.putObj l (.loop { r with state := .exhausted }))
                  generalize hw4 : w3.putObj l (.loop { r with state := .exhausted }) = w4 at stf hdf ⊢
                  cases hp : L.pend with
                  | normal => rw [hp] at hpend; simp only at hpend; rw [hpend]; exact ⟨trivial, e3, rs1, htf, stf, hdf⟩
                  | ret => rw [hp] at hpend; simp only at hpend; rw [hpend]; exact Go.wpIn_ret ⟨trivial, e3, rs1, htf, stf, hdf⟩
                  | exit i => rw [hp] at hpend; simp only at hpend; rw [hpend]; exact Go.wpIn_exit ⟨rfl, e3, rs1, htf, stf, hdf⟩
              · simp at hev
        · simp at hev
      · simp at hev
    · simp at hc
  | exit i =>
    intro ac t t' h h' x e w a rs hc hev har hN s ht hd
    simp [compC] at hc; subst hc; simp [evA] at hev; obtain ⟨rfl, rfl, rfl⟩ := hev
    exact Go.wpIn_exit ⟨rfl, e, rs, ht, Stp.refl s, hd⟩
  | ret =>
    intro ac t t' h h' x e w a rs hc hev har hN s ht hd
    simp [compC] at hc; subst hc; simp [evA] at hev; obtain ⟨rfl, rfl, rfl⟩ := hev
    exact Go.wpIn_ret ⟨trivial, e, rs, ht, Stp.refl s, hd⟩
  | scope c ih =>
    intro ac t t' h h' x e w a rs hc hev har hN s ht hd
    refine wpIn_scope (Go.wpIn_mono (ih (by simpa [compC] using hc) hev har hN s ht hd) fun E a1 w1 hp => ?_)
    cases E with
    | goto l => exact absurd hp.1 (by cases x <;> simp [ExR])
    | _ => exact hp
  | goto l =>
    intro ac t t' h h' x e w a rs hc hev har hN s ht hd
    simp [compC] at hc; subst hc; simp [evA] at hev
  | refuse why =>
    intro ac t t' h h' x e w a rs hc hev har hN s ht hd
    simp [compC] at hc; subst hc; simp [evA] at hev

end Am
