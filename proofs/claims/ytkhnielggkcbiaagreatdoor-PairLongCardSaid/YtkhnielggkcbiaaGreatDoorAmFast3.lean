/- AmFast3: regions, code, functions, calls by the fast evaluator. -/
import Derived.Test.YtkhnielggkcbiaaGreatDoorAmFast2
namespace Am
set_option linter.all false
open Go (IntKind BinOp UnOp)
variable {live : Nat → Bool} {L : List Nat} {t0 t : Tm} {E : Tr V} {loc : List V}

/-! ### Heaps -/
noncomputable def pdT (t : Tm) (d : Option Nat) (v : V) : Tm := @Option.rec Nat (fun _ => Tm) t (fun d => putK (Nat.add d 1) t d (some v)) d
theorem pdT_eq (t : Tm) (d : Option Nat) (v : V) : pdT t d v = t.pd d v := by
  cases d with
  | none => rfl
  | some d => show putK (d + 1) t d (some v) = _; rw [putK_eq]; rfl
noncomputable def loopAt (h : H) (l : Nat) (k : LoopSt → Bool) : Bool :=
  @Option.rec Blk (fun _ => Bool) false (fun x => @Blk.rec (fun _ => Bool) (fun _ _ _ => false) (fun _ _ => false) (fun _ => false) (fun _ _ => false) k x) (getK h.tr l)
theorem loopAt_true {h : H} {l : Nat} {k : LoopSt → Bool} (hk : loopAt h l k = true) : ∃ x, h.get l = some (.loop x) ∧ k x = true := by
  unfold loopAt at hk
  rw [getK_eq] at hk
  unfold H.get
  cases hb : h.tr.get l with
  | none => rw [hb] at hk; cases hk
  | some x =>
    rw [hb] at hk
    cases x <;> first | (cases hk; done) | skip
    exact ⟨_, rfl, hk⟩

/-! ### Regions -/
inductive KOper where
  | mk (dst : Option Nat) (act : KAct) (grd : Option (KOpd × Bool))
def pushN (d : Option Nat) (L : List Nat) : List Nat :=
  match d with
  | some d => d :: L
  | none => L
noncomputable def pushL (d : Option Nat) (v : V) (loc : List V) : List V := @Option.rec Nat (fun _ => List V) loc (fun _ => v :: loc) d
theorem LOk.push (hl : LOk L loc t) (d : Option Nat) (v : V) : LOk (pushN d L) (pushL d v loc) (t.pd d v) := by
  cases d with
  | none => exact hl
  | some d =>
    intro n i hi
    have hi : idxK (d :: L) n 0 = some i := hi
    rw [idxK_cons] at hi
    show nthV i (v :: loc) = (t.st d v).v n
    rw [Tm.v_st]
    by_cases h : d = n
    · rw [if_pos h] at hi; cases hi
      rw [if_pos h.symm]; rfl
    · rw [if_neg h, idxK_succ] at hi
      rw [if_neg (Ne.symm h)]
      cases hx : idxK L n 0 with
      | none => rw [hx] at hi; cases hi
      | some j => rw [hx] at hi; cases hi; exact hl n j hx
theorem GOk.push (hg : GOk L t0 t) (d : Option Nat) (v : V) : GOk (pushN d L) t0 (t.pd d v) := by
  cases d with
  | none => exact hg
  | some d =>
    intro n hi
    have hi : idxK (d :: L) n 0 = none := hi
    rw [idxK_cons] at hi
    show (t.st d v).v n = _
    rw [Tm.v_st]
    by_cases h : d = n
    · rw [if_pos h] at hi; cases hi
    · rw [if_neg h, idxK_succ] at hi
      rw [if_neg (Ne.symm h)]
      cases hx : idxK L n 0 with
      | none => exact hg n hx
      | some j => rw [hx] at hi; cases hi
noncomputable def compG (live : Nat → Bool) (L : List Nat) (g : Option (Nat × Bool)) : Option (Option (KOpd × Bool)) :=
  @Option.rec (Nat × Bool) (fun _ => Option (Option (KOpd × Bool))) (some none) (fun g => (compO live L (.t g.1)).bind fun x => some (some (x, g.2))) g
noncomputable def compOps (live : Nat → Bool) : List AOper → List Nat → Option (List KOper × List Nat) :=
  @List.rec AOper (fun _ => List Nat → Option (List KOper × List Nat)) (fun L => some ([], L))
    (fun o _ ih L => (compA live L o.op).bind fun a => (compG live L o.guard).bind fun g => (ih (pushN o.dst L)).bind fun r => some (.mk o.dst a g :: r.1, r.2))
noncomputable def eqB : Bool → Bool → Bool := @Bool.rec (fun _ => Bool → Bool) (@Bool.rec (fun _ => Bool) true false) (@Bool.rec (fun _ => Bool) false true)
noncomputable def wantK (g : KOpd × Bool) (E : Tr V) (loc : List V) : Bool := vB false (rdK g.1 E loc) (fun b => eqB b g.2)
theorem wantK_ok {o : AOper} {n : Nat} {w : Bool} {x : KOpd} (ho : o.guard = some (n, w)) (hc : compO live L (.t n) = some x) (he : EOk live t0 E) (hl : LOk L loc t) (hg : GOk L t0 t) : wantK (x, w) E loc = o.wanted t := by
  unfold wantK AOper.wanted
  rw [ho, compO_ok hc he hl hg]
  show vB false (t.v n) _ = match t.v n with | .b x => x == w | _ => false
  cases t.v n <;> try rfl
  rename_i b
  cases b <;> cases w <;> rfl
noncomputable def stepK (o : KOper) (R : RK) (t : Tm) (E : Tr V) (loc : List V) (h : H) (k : Tm → List V → H → Bool) : Bool :=
  @KOper.rec (fun _ => Bool) (fun dst act grd => @Option.rec (KOpd × Bool) (fun _ => Bool) (actK act R E loc h (fun v h' => k (pdT t dst v) (pushL dst v loc) h'))
    (fun g => @Bool.rec (fun _ => Bool) (k (pdT t dst .un) (pushL dst .un loc) h) (actK act R E loc h (fun v h' => k (pdT t dst v) (pushL dst v loc) h')) (wantK g E loc)) grd) o
noncomputable def opsK : List KOper → RK → Tm → Tr V → List V → H → (Tm → List V → H → Bool) → Bool :=
  @List.rec KOper (fun _ => RK → Tm → Tr V → List V → H → (Tm → List V → H → Bool) → Bool) (fun _ t _ loc h k => k t loc h) (fun o _ ih R t E loc h k => stepK o R t E loc h (fun t' loc' h' => ih R t' E loc' h' k))
theorem opsK_true {R : RK} {Rn : RunT} (hR : RKok R Rn) : ∀ {ops : List AOper} {kops : List KOper} {L L' : List Nat} {loc : List V} {t : Tm} {h : H} {k : Tm → List V → H → Bool},
    compOps live ops L = some (kops, L') → EOk live t0 E → LOk L loc t → GOk L t0 t → opsK kops R t E loc h k = true →
    ∃ t' h' loc', evOps Rn ops t h = some (t', h') ∧ LOk L' loc' t' ∧ GOk L' t0 t' ∧ k t' loc' h' = true
  | [], kops, L, L', loc, t, h, k, hc, he, hl, hg, hk => by
    cases hc
    exact ⟨t, h, loc, rfl, hl, hg, hk⟩
  | o :: ops, kops, L, L', loc, t, h, k, hc, he, hl, hg, hk => by
    have hc : ((compA live L o.op).bind fun a => (compG live L o.guard).bind fun g => (compOps live ops (pushN o.dst L)).bind fun r => some (.mk o.dst a g :: r.1, r.2)) = some (kops, L') := hc
    obtain ⟨a, ha, hc⟩ := Option.bind_eq_some_iff.1 hc
    obtain ⟨g, hgd, hc⟩ := Option.bind_eq_some_iff.1 hc
    obtain ⟨⟨ks, L2⟩, hrest, hc⟩ := Option.bind_eq_some_iff.1 hc
    cases hc
    have run : o.wanted t = true → actK a R E loc h (fun v h' => opsK ks R (pdT t o.dst v) E (pushL o.dst v loc) h' k) = true → ∃ t' h' loc', evOps Rn (o :: ops) t h = some (t', h') ∧ LOk L2 loc' t' ∧ GOk L2 t0 t' ∧ k t' loc' h' = true := by
      intro hw hk
      obtain ⟨v, h1, hv, hk⟩ := actK_true hR ha he hl hg hk
      rw [pdT_eq] at hk
      obtain ⟨t', h', loc', x, y⟩ := opsK_true hR hrest he (hl.push o.dst v) (hg.push o.dst v) hk
      exact ⟨t', h', loc', by unfold evOps; rw [if_pos hw, hv]; exact x, y⟩
    have skip : o.wanted t = false → opsK ks R (pdT t o.dst .un) E (pushL o.dst .un loc) h k = true → ∃ t' h' loc', evOps Rn (o :: ops) t h = some (t', h') ∧ LOk L2 loc' t' ∧ GOk L2 t0 t' ∧ k t' loc' h' = true := by
      intro hw hk
      rw [pdT_eq] at hk
      obtain ⟨t', h', loc', x, y⟩ := opsK_true hR hrest he (hl.push o.dst .un) (hg.push o.dst .un) hk
      exact ⟨t', h', loc', by unfold evOps; rw [if_neg (by rw [hw]; simp)]; exact x, y⟩
    cases hgo : o.guard with
    | none =>
      rw [hgo] at hgd
      cases hgd
      exact run (by unfold AOper.wanted; rw [hgo]) hk
    | some q =>
      obtain ⟨n, w⟩ := q
      rw [hgo] at hgd
      have hgd : ((compO live L (.t n)).bind fun x => some (some (x, w))) = some g := hgd
      obtain ⟨x, hx, hgd⟩ := Option.bind_eq_some_iff.1 hgd
      cases hgd
      have hk : @Bool.rec (fun _ => Bool) (opsK ks R (pdT t o.dst .un) E (pushL o.dst .un loc) h k) (actK a R E loc h (fun v h' => opsK ks R (pdT t o.dst v) E (pushL o.dst v loc) h' k)) (wantK (x, w) E loc) = true := hk
      rw [wantK_ok hgo hx he hl hg] at hk
      cases hw : o.wanted t with
      | false => rw [hw] at hk; exact skip hw hk
      | true => rw [hw] at hk; exact run hw hk

noncomputable def outsOf (live : Nat → Bool) : List Nat → Nat → List (Nat × Pos) :=
  @List.rec Nat (fun _ => Nat → List (Nat × Pos)) (fun _ => []) (fun n _ ih d => @Bool.rec (fun _ => List (Nat × Pos)) (ih (Nat.succ d)) ((d, pos n) :: ih (Nat.succ d)) (live n))
noncomputable def writeK : List (Nat × Pos) → List V → Tr V → Tr V :=
  @List.rec (Nat × Pos) (fun _ => List V → Tr V → Tr V) (fun _ E => E) (fun q _ ih loc E => putP q.2 (ih loc E) (some (nthV q.1 loc)))
theorem writeK_at (loc : List V) (E : Tr V) {n : Nat} (hn : live n = true) : ∀ (L : List Nat) (d : Nat), gE (pos n) (writeK (outsOf live L d) loc E) = match idxK L n d with
    | some j => nthV j loc
    | none => gE (pos n) E
  | [], d => rfl
  | m :: L, d => by
    rw [idxK_cons]
    have hi := writeK_at loc E hn L (d + 1)
    show gE (pos n) (writeK (@Bool.rec (fun _ => List (Nat × Pos)) (outsOf live L (d + 1)) ((d, pos m) :: outsOf live L (d + 1)) (live m)) loc E) = _
    cases hm : live m with
    | false =>
      have : m ≠ n := by rintro rfl; rw [hm] at hn; cases hn
      rw [if_neg this]
      exact hi
    | true =>
      show gE (pos n) (putP (pos m) (writeK (outsOf live L (d + 1)) loc E) (some (nthV d loc))) = _
      unfold gE at hi ⊢
      rw [getP_putP]
      by_cases h : m = n
      · subst h; rw [if_pos rfl, if_pos rfl]
      · rw [if_neg h, if_neg fun he => h (pos_inj he).symm]
        exact hi
theorem writeK_ok (he : EOk live t0 E) (hl : LOk L loc t) (hg : GOk L t0 t) : EOk live t (writeK (outsOf live L 0) loc E) := by
  intro n hn
  rw [writeK_at loc E hn L 0]
  cases hi : idxK L n 0 with
  | some j => exact hl n j hi
  | none => exact (he n hn).trans (hg n hi).symm

/-! ### Regions that draw their order -/
inductive KActD where
  | op (o : AOp) (tb : List (Nat × KOpd)) (kd : OpK)
  | call (f : KOpd) (args : List KOpd)
  | inv (tbl : List (Nat × Nat)) (x : KOpd) (args : List KOpd)
  | opl (o : AOp) (tb : List (Nat × KOpd)) (kd : OpK)
inductive KOperD where
  | mk (dst : Option Nat) (act : KActD) (grd : Option (KOpd × Bool)) (look : Nat)
noncomputable def compAD (lt : Bool) (live : Nat → Bool) (L : List Nat) (a : AAct) : Option KActD :=
  @AAct.rec (fun _ => Option KActD) (fun o => (compTb live L o.tmps).bind fun tb => some (@Bool.rec (fun _ => KActD) (.op o tb o.kind) (.opl o tb o.kind) lt)) (fun f args => (compO live L f).bind fun f => (compOs live L args).bind fun args => some (.call f args))
    (fun tbl x args => (compO live L x).bind fun x => (compOs live L args).bind fun args => some (.inv tbl x args)) a
noncomputable def compOpsD (lt : Bool) (live : Nat → Bool) : List AOper → List Nat → Option (List KOperD × List Nat) :=
  @List.rec AOper (fun _ => List Nat → Option (List KOperD × List Nat)) (fun L => some ([], L))
    (fun o _ ih L => (compAD lt live L o.op).bind fun a => (compG live L o.guard).bind fun g => (ih (pushN o.dst L)).bind fun r => some (.mk o.dst a g o.look :: r.1, r.2))
noncomputable def allK : Nat → List H → (H → Bool) → Bool :=
  @Nat.rec (fun _ => List H → (H → Bool) → Bool) (fun _ _ => true) (fun _ ih hs p => @List.rec H (fun _ => Bool) true (fun g gs _ => @Bool.rec (fun _ => Bool) false (ih gs p) (p g)) hs)
theorem allK_eq : ∀ (n : Nat) (hs : List H) (p : H → Bool), allK n hs p = (hs.take n).all p
  | 0, hs, p => by simp; rfl
  | n + 1, [], p => by simp; rfl
  | n + 1, g :: gs, p => by
    show @Bool.rec (fun _ => Bool) false (allK n gs p) (p g) = _
    rw [allK_eq n gs p]
    cases hp : p g <;> simp [hp]
noncomputable def lookK (kd : OpK) (o : AOp) (ρ : AOpd → V) (v : V) (hs : List H) (n : Nat) : Bool :=
  @OpK.rec (fun _ => Bool) true (allK (Nat.add n 1) hs (fun g => @Option.rec (V × H) (fun _ => Bool) false (fun r => V.beq v r.1) (opR o ρ g))) true true kd
noncomputable def behK (kd : OpK) (h : H) (hs : List H) : List H := @OpK.rec (fun _ => List H) hs hs hs (h :: hs) kd
abbrev KD := Tm → List V → H → List H → Bool
noncomputable def actD (a : KActD) (n : Nat) (R : RK) (E : Tr V) (loc : List V) (h : H) (hs : List H) (K : V → H → List H → Bool) : Bool :=
  @KActD.rec (fun _ => Bool)
    (fun o tb kd => @Option.rec (V × H) (fun _ => Bool) false (fun r => @Bool.rec (fun _ => Bool) false (@Bool.rec (fun _ => Bool) false (K r.1 r.2 (behK kd r.2 hs)) (Nat.ble h.nx r.2.nx)) (lookK kd o (rhoK tb E loc) r.1 hs n)) (opR o (rhoK tb E loc) h))
    (fun f args => vF false (rdK f E loc) (fun c caps => R c (rdsK args E loc caps) h (fun v h' => @Bool.rec (fun _ => Bool) false (K v h' (h' :: hs)) (Nat.ble h.nx h'.nx))))
    (fun tbl x args => vIf false (rdK x E loc) (fun ty v => @Option.rec Nat (fun _ => Bool) false (fun f => R (.fn f) (v :: rdsK args E loc []) h (fun v h' => @Bool.rec (fun _ => Bool) false (K v h' (h' :: hs)) (Nat.ble h.nx h'.nx))) (inTbl tbl ty)))
    (fun o tb kd => @Option.rec (V × H) (fun _ => Bool) false (fun r => @Bool.rec (fun _ => Bool) false (lookK kd o (rhoK tb E loc) r.1 hs n) (@Bool.rec (fun _ => Bool) false (K r.1 r.2 (behK kd r.2 hs)) (Nat.ble h.nx r.2.nx))) (opR o (rhoK tb E loc) h)) a
noncomputable def kindD (a : KActD) : OpK := @KActD.rec (fun _ => OpK) (fun _ _ kd => kd) (fun _ _ => .eff) (fun _ _ _ => .eff) (fun _ _ kd => kd) a
noncomputable def stepDK (o : KOperD) (R : RK) (t : Tm) (E : Tr V) (loc : List V) (h : H) (hs : List H) (k : KD) : Bool :=
  @KOperD.rec (fun _ => Bool) (fun dst act grd n => @Option.rec (KOpd × Bool) (fun _ => Bool) (actD act n R E loc h hs (fun v h' hs' => k (pdT t dst v) (pushL dst v loc) h' hs'))
    (fun g => @Bool.rec (fun _ => Bool) (k (pdT t dst .un) (pushL dst .un loc) h (behK (kindD act) h hs)) (actD act n R E loc h hs (fun v h' hs' => k (pdT t dst v) (pushL dst v loc) h' hs')) (wantK g E loc)) grd) o
noncomputable def opsDK : List KOperD → RK → Tm → Tr V → List V → H → List H → KD → Bool :=
  @List.rec KOperD (fun _ => RK → Tm → Tr V → List V → H → List H → KD → Bool) (fun _ t _ loc h hs k => k t loc h hs) (fun o _ ih R t E loc h hs k => stepDK o R t E loc h hs (fun t' loc' h' hs' => ih R t' E loc' h' hs' k))
theorem behK_eq (a : AAct) (h : H) (hs : List H) : behK a.kind h hs = behind a h hs := by
  unfold behind
  cases a.kind <;> rfl
theorem bool_and {a b : Bool} {x : Bool} (h : @Bool.rec (fun _ => Bool) false (@Bool.rec (fun _ => Bool) false x b) a = true) : a = true ∧ b = true ∧ x = true := by
  cases a
  · cases h
  · cases b
    · cases h
    · exact ⟨rfl, rfl, h⟩
theorem bool_if {a x : Bool} (h : @Bool.rec (fun _ => Bool) false x a = true) : a = true ∧ x = true := by
  cases a
  · cases h
  · exact ⟨rfl, h⟩
theorem lookK_ok {o : AOp} {tb : List (Nat × KOpd)} {v : V} {hs : List H} {n : Nat} {d : Option Nat} {g : Option (Nat × Bool)} (hc : compTb live L o.tmps = some tb) (he : EOk live t0 E) (hl : LOk L loc t) (hg : GOk L t0 t)
    (h : lookK o.kind o (rhoK tb E loc) v hs n = true) : looked ⟨d, .op o, g, n⟩ t.ev v hs = true := by
  unfold looked
  unfold lookK at h
  show (match o.kind with | .read => lookOk (.op o) t.ev v (hs.take (n + 1)) | _ => true) = true
  cases hk : o.kind with
  | pure => rfl
  | alloc => rfl
  | eff => rfl
  | read =>
    rw [hk] at h
    have h : allK (n + 1) hs (fun g => @Option.rec (V × H) (fun _ => Bool) false (fun r => V.beq v r.1) (opR o (rhoK tb E loc) g)) = true := h
    rw [allK_eq] at h
    show ((hs.take (n + 1)).all fun g => match o.ev t.ev g with | some (v', _) => V.beq v v' | none => false) = true
    rw [List.all_eq_true] at h ⊢
    intro g hgm
    have := h g hgm
    rw [opR_eq, rhoK_ok hc he hl hg] at this
    cases hv : o.ev t.ev g with
    | none => rw [hv] at this; cases this
    | some r => rw [hv] at this; exact this
theorem actD_true {lt : Bool} {R : RK} {Rn : RunT} (hR : RKok R Rn) {a : AAct} {ka : KActD} {n : Nat} {d : Option Nat} {g : Option (Nat × Bool)} (hc : compAD lt live L a = some ka) (he : EOk live t0 E) (hl : LOk L loc t) (hg : GOk L t0 t) {h : H} {hs : List H} {K : V → H → List H → Bool}
    (hk : actD ka n R E loc h hs K = true) : ∃ v h', evOp Rn a t h = some (v, h') ∧ (looked ⟨d, a, g, n⟩ t.ev v hs && Nat.ble h.nx h'.nx) = true ∧ K v h' (behind a h' hs) = true := by
  cases a with
  | op o =>
    obtain ⟨tb, h1, h2⟩ := Option.bind_eq_some_iff.1 (show ((compTb live L o.tmps).bind fun tb => some (@Bool.rec (fun _ => KActD) (.op o tb o.kind) (.opl o tb o.kind) lt)) = some ka from hc)
    cases lt with
    | false =>
      cases h2
      have hk : @Option.rec (V × H) (fun _ => Bool) false (fun r => @Bool.rec (fun _ => Bool) false (@Bool.rec (fun _ => Bool) false (K r.1 r.2 (behK o.kind r.2 hs)) (Nat.ble h.nx r.2.nx)) (lookK o.kind o (rhoK tb E loc) r.1 hs n)) (opR o (rhoK tb E loc) h) = true := hk
      rw [opR_eq, rhoK_ok h1 he hl hg] at hk
      cases hv : o.ev t.ev h with
      | none => rw [hv] at hk; cases hk
      | some r =>
        rw [hv] at hk
        obtain ⟨x, y, z⟩ := bool_and hk
        refine ⟨r.1, r.2, hv, by rw [lookK_ok h1 he hl hg x, y]; rfl, ?_⟩
        rw [← behK_eq]; exact z
    | true =>
      cases h2
      have hk : @Option.rec (V × H) (fun _ => Bool) false (fun r => @Bool.rec (fun _ => Bool) false (lookK o.kind o (rhoK tb E loc) r.1 hs n) (@Bool.rec (fun _ => Bool) false (K r.1 r.2 (behK o.kind r.2 hs)) (Nat.ble h.nx r.2.nx))) (opR o (rhoK tb E loc) h) = true := hk
      rw [opR_eq, rhoK_ok h1 he hl hg] at hk
      cases hv : o.ev t.ev h with
      | none => rw [hv] at hk; cases hk
      | some r =>
        rw [hv] at hk
        obtain ⟨w, x⟩ := bool_if hk
        obtain ⟨y, z⟩ := bool_if w
        refine ⟨r.1, r.2, hv, by rw [lookK_ok h1 he hl hg x, y]; rfl, ?_⟩
        rw [← behK_eq]; exact z
  | call f args =>
    have hc : ((compO live L f).bind fun f => (compOs live L args).bind fun args => some (.call f args)) = some ka := hc
    obtain ⟨y, h1, hc⟩ := Option.bind_eq_some_iff.1 hc
    obtain ⟨zs, h2, hc⟩ := Option.bind_eq_some_iff.1 hc
    cases hc
    obtain ⟨c, caps, hf, hk⟩ := vF_true hk
    rw [compO_ok h1 he hl hg] at hf
    rw [compOs_ok caps h2 he hl hg] at hk
    obtain ⟨v, h', hv, hk⟩ := hR _ _ _ _ hk
    obtain ⟨x, z⟩ := bool_if hk
    exact ⟨v, h', by simp only [evOp, hf]; exact hv, by rw [x]; rfl, z⟩
  | inv tbl x args =>
    have hc : ((compO live L x).bind fun f => (compOs live L args).bind fun args => some (.inv tbl f args)) = some ka := hc
    obtain ⟨y, h1, hc⟩ := Option.bind_eq_some_iff.1 hc
    obtain ⟨zs, h2, hc⟩ := Option.bind_eq_some_iff.1 hc
    cases hc
    obtain ⟨ty, u, hf, hk⟩ := vIf_true hk
    rw [compO_ok h1 he hl hg] at hf
    cases ht : inTbl tbl ty with
    | none => rw [ht] at hk; cases hk
    | some f =>
      rw [ht] at hk
      have hk : R (.fn f) (u :: rdsK zs E loc []) h (fun v h' => @Bool.rec (fun _ => Bool) false (K v h' (h' :: hs)) (Nat.ble h.nx h'.nx)) = true := hk
      rw [compOs_ok [] h2 he hl hg, List.append_nil] at hk
      obtain ⟨v, h', hv, hk⟩ := hR _ _ _ _ hk
      obtain ⟨x, z⟩ := bool_if hk
      exact ⟨v, h', by simp only [evOp, hf, ht]; exact hv, by rw [x]; rfl, z⟩
theorem kindD_eq {lt : Bool} {a : AAct} {ka : KActD} (hc : compAD lt live L a = some ka) : kindD ka = a.kind := by
  cases a with
  | op o =>
    obtain ⟨tb, h1, h2⟩ := Option.bind_eq_some_iff.1 (show ((compTb live L o.tmps).bind fun tb => some (@Bool.rec (fun _ => KActD) (.op o tb o.kind) (.opl o tb o.kind) lt)) = some ka from hc)
    cases lt <;> (cases h2; rfl)
  | call f args =>
    have hc : ((compO live L f).bind fun f => (compOs live L args).bind fun args => some (.call f args)) = some ka := hc
    obtain ⟨y, h1, hc⟩ := Option.bind_eq_some_iff.1 hc
    obtain ⟨zs, h2, hc⟩ := Option.bind_eq_some_iff.1 hc
    cases hc; rfl
  | inv tbl x args =>
    have hc : ((compO live L x).bind fun f => (compOs live L args).bind fun args => some (.inv tbl f args)) = some ka := hc
    obtain ⟨y, h1, hc⟩ := Option.bind_eq_some_iff.1 hc
    obtain ⟨zs, h2, hc⟩ := Option.bind_eq_some_iff.1 hc
    cases hc; rfl
theorem opsDK_true {lt : Bool} {R : RK} {Rn : RunT} (hR : RKok R Rn) : ∀ {ops : List AOper} {kops : List KOperD} {L L' : List Nat} {loc : List V} {t : Tm} {h : H} {hs : List H} {k : KD},
    compOpsD lt live ops L = some (kops, L') → EOk live t0 E → LOk L loc t → GOk L t0 t → opsDK kops R t E loc h hs k = true →
    ∃ t' h' loc' hs', evOpsD Rn ops t h hs = some (t', h') ∧ LOk L' loc' t' ∧ GOk L' t0 t' ∧ k t' loc' h' hs' = true
  | [], kops, L, L', loc, t, h, hs, k, hc, he, hl, hg, hk => by
    cases hc
    exact ⟨t, h, loc, hs, rfl, hl, hg, hk⟩
  | ⟨dst, op, guard, look⟩ :: ops, kops, L, L', loc, t, h, hs, k, hc, he, hl, hg, hk => by
    have hc : ((compAD lt live L op).bind fun a => (compG live L guard).bind fun g => (compOpsD lt live ops (pushN dst L)).bind fun r => some (.mk dst a g look :: r.1, r.2)) = some (kops, L') := hc
    obtain ⟨a, ha, hc⟩ := Option.bind_eq_some_iff.1 hc
    obtain ⟨g, hgd, hc⟩ := Option.bind_eq_some_iff.1 hc
    obtain ⟨⟨ks, L2⟩, hrest, hc⟩ := Option.bind_eq_some_iff.1 hc
    cases hc
    have run : AOper.wanted ⟨dst, op, guard, look⟩ t = true → actD a look R E loc h hs (fun v h' hs' => opsDK ks R (pdT t dst v) E (pushL dst v loc) h' hs' k) = true → ∃ t' h' loc' hs', evOpsD Rn (⟨dst, op, guard, look⟩ :: ops) t h hs = some (t', h') ∧ LOk L2 loc' t' ∧ GOk L2 t0 t' ∧ k t' loc' h' hs' = true := by
      intro hw hk
      obtain ⟨v, h1, hv, hlk, hk⟩ := actD_true (d := dst) (g := guard) hR ha he hl hg hk
      rw [pdT_eq] at hk
      obtain ⟨t', h', loc', hs', x, y⟩ := opsDK_true hR hrest he (hl.push dst v) (hg.push dst v) hk
      refine ⟨t', h', loc', hs', ?_, y⟩
      unfold evOpsD stepD
      simp only
      rw [if_pos hw, hv, Option.bind_some, if_pos hlk]
      exact x
    have skip : AOper.wanted ⟨dst, op, guard, look⟩ t = false → opsDK ks R (pdT t dst .un) E (pushL dst .un loc) h (behK (kindD a) h hs) k = true → ∃ t' h' loc' hs', evOpsD Rn (⟨dst, op, guard, look⟩ :: ops) t h hs = some (t', h') ∧ LOk L2 loc' t' ∧ GOk L2 t0 t' ∧ k t' loc' h' hs' = true := by
      intro hw hk
      rw [pdT_eq, kindD_eq ha, behK_eq] at hk
      obtain ⟨t', h', loc', hs', x, y⟩ := opsDK_true hR hrest he (hl.push dst .un) (hg.push dst .un) hk
      refine ⟨t', h', loc', hs', ?_, y⟩
      unfold evOpsD stepD
      simp only
      rw [if_neg (by rw [hw]; simp), Option.bind_some]
      exact x
    cases guard with
    | none =>
      cases hgd
      exact run rfl hk
    | some q =>
      obtain ⟨n, w⟩ := q
      have hgd : ((compO live L (.t n)).bind fun x => some (some (x, w))) = some g := hgd
      obtain ⟨x, hx, hgd⟩ := Option.bind_eq_some_iff.1 hgd
      cases hgd
      have hk : @Bool.rec (fun _ => Bool) (opsDK ks R (pdT t dst .un) E (pushL dst .un loc) h (behK (kindD a) h hs) k) (actD a look R E loc h hs (fun v h' hs' => opsDK ks R (pdT t dst v) E (pushL dst v loc) h' hs' k)) (wantK (x, w) E loc) = true := hk
      rw [wantK_ok (o := ⟨dst, op, some (n, w), look⟩) rfl hx he hl hg] at hk
      cases hw : AOper.wanted ⟨dst, op, some (n, w), look⟩ t with
      | false => rw [hw] at hk; exact skip hw hk
      | true => rw [hw] at hk; exact run hw hk
end Am
