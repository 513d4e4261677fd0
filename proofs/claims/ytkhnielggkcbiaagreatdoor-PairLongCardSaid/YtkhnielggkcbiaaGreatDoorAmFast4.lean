/- AmFast4: code, functions, the runner: what the fast evaluator answers is what the machine answers. -/
import Derived.Test.YtkhnielggkcbiaaGreatDoorAmFast3
namespace Am
set_option linter.all false
open Go (IntKind BinOp UnOp)
variable {live : Nat → Bool} {L : List Nat} {t0 t : Tm} {E : Tr V} {loc : List V}

inductive KCode where
  | skip
  | reg (ops : List KOper) (outs : List (Nat × Pos))
  | regD (ops : List KOperD) (outs : List (Nat × Pos))
  | seq (a b : KCode)
  | cond (x : KOpd) (a b : KCode)
  | block (id : Nat) (c : KCode)
  | loop (c : KCode)
  | rfn (f : KOpd) (ps : List Nat) (a b : ACode)
  | exit (id : Nat)
  | ret
  | bad
noncomputable def compK (lt : Bool) (live : Nat → Bool) (c : ACode) : KCode :=
  @ACode.rec (fun _ => KCode) .skip
    (fun ops => @Option.rec (List KOper × List Nat) (fun _ => KCode) .bad (fun r => .reg r.1 (outsOf live r.2 0)) (compOps live ops []))
    (fun ops => @Option.rec (List KOperD × List Nat) (fun _ => KCode) .bad (fun r => .regD r.1 (outsOf live r.2 0)) (compOpsD lt live ops []))
    (fun _ _ a b => .seq a b)
    (fun x _ _ a b => @Option.rec KOpd (fun _ => KCode) .bad (fun x => .cond x a b) (compO live [] x))
    (fun id _ c => .block id c) (fun _ c => .loop c)
    (fun f ps a b _ _ => @Option.rec KOpd (fun _ => KCode) .bad (fun f => .rfn f ps a b) (compO live [] f))
    (fun id => .exit id) .ret .bad c
abbrev KA := Ex → Tm → Tr V → H → Bool
noncomputable def exK (a b : Bool) (f : Nat → Bool) (e : Ex) : Bool := @Ex.rec (fun _ => Bool) a f b e
noncomputable def iterK : Nat → (Tm → Tr V → H → KA → Bool) → Tm → Tr V → H → KA → Bool :=
  @Nat.rec (fun _ => (Tm → Tr V → H → KA → Bool) → Tm → Tr V → H → KA → Bool) (fun _ _ _ _ _ => false) (fun _ ih body t E h k => body t E h (fun e t' E' h' => exK (ih body t' E' h' k) (k .ret t' E' h') (fun id => k (.exit id) t' E' h') e))
noncomputable def notBusy : LoopState → Bool := @LoopState.rec (fun _ => Bool) true false true
noncomputable def isReady : LoopState → Bool := @LoopState.rec (fun _ => Bool) true false false
noncomputable def arK (h : H) (ar : Option Nat) : Bool := @Option.rec Nat (fun _ => Bool) true (fun l => loopAt h l (fun _ => true)) ar
noncomputable def codeK : KCode → RK → Nat → Nat → Option Nat → Tm → Tr V → H → KA → Bool :=
  @KCode.rec (fun _ => RK → Nat → Nat → Option Nat → Tm → Tr V → H → KA → Bool)
    (fun _ _ _ _ t E h k => k .normal t E h)
    (fun ops outs R _ _ _ t E h k => opsK ops R t E [] h (fun t' loc h' => k .normal t' (writeK outs loc E) h'))
    (fun ops outs R _ _ _ t E h k => opsDK ops R t E [] h (h :: []) (fun t' loc h' _ => k .normal t' (writeK outs loc E) h'))
    (fun _ _ a b R N nt ar t E h k => a R N nt ar t E h (fun e t' E' h' => exK (b R N nt ar t' E' h' k) (k .ret t' E' h') (fun id => k (.exit id) t' E' h') e))
    (fun x _ _ a b R N nt ar t E h k => vB false (rdK x E []) (fun c => @Bool.rec (fun _ => Bool) (b R N nt ar t E h k) (a R N nt ar t E h k) c))
    (fun id _ c R N nt ar t E h k => c R N nt ar t E h (fun e t' E' h' => exK (k .normal t' E' h') (k .ret t' E' h') (fun id' => @Bool.rec (fun _ => Bool) (k (.exit id') t' E' h') (k .normal t' E' h') (Nat.beq id' id)) e))
    (fun _ c R N nt ar t E h k => iterK N (c R N nt ar) t E h k)
    (fun f ps a b R _ nt ar t E h k => @Bool.rec (fun _ => Bool) false (vF false (rdK f E []) (fun c caps => @Cal.rec (fun _ => Bool)
      (fun f => R (.fn f) (.f (.yl h.nx) [] :: caps) (pushH h (.loop { st := .ready, pend := .normal, tm := t, nt := nt, params := ps, assign := a, body := b })) (fun _ h' => loopAt h' h.nx (fun l => @Bool.rec (fun _ => Bool) false (k l.pend t E (killH h' h.nx)) (notBusy l.st))))
      (fun _ => false) c)) (arK h ar))
    (fun id _ _ _ _ t E h k => k (.exit id) t E h)
    (fun _ _ _ _ t E h k => k .ret t E h)
    (fun _ _ _ _ _ _ _ _ => false)

theorem exK_true {a b : Bool} {f : Nat → Bool} {e : Ex} (h : exK a b f e = true) : (e = .normal ∧ a = true) ∨ (e = .ret ∧ b = true) ∨ ∃ id, e = .exit id ∧ f id = true := by
  cases e with
  | normal => exact .inl ⟨rfl, h⟩
  | ret => exact .inr (.inl ⟨rfl, h⟩)
  | exit id => exact .inr (.inr ⟨id, rfl, h⟩)
theorem iterK_true {kb : Tm → Tr V → H → KA → Bool} {b : (Tm × H) → Option (Ex × (Tm × H))}
    (hb : ∀ t E h k, EOk live t E → kb t E h k = true → ∃ ex t' h' E', b (t, h) = some (ex, t', h') ∧ EOk live t' E' ∧ k ex t' E' h' = true) :
    ∀ (n : Nat) {t : Tm} {E : Tr V} {h : H} {k : KA}, EOk live t E → iterK n kb t E h k = true →
      ∃ ex t' h' E', iter (fun s => (b s).bind fun r => match r.1 with | .normal => some (none, r.2) | e => some (some e, r.2)) n (t, h) = some (ex, t', h') ∧ EOk live t' E' ∧ k ex t' E' h' = true
  | 0, t, E, h, k, he, hk => by cases hk
  | n + 1, t, E, h, k, he, hk => by
    obtain ⟨ex, t1, h1, E1, hv, he1, hk⟩ := hb t E h _ he hk
    rcases exK_true hk with ⟨rfl, hk⟩ | ⟨rfl, hk⟩ | ⟨id, rfl, hk⟩
    · obtain ⟨ex, t2, h2, E2, hv2, he2, hk2⟩ := iterK_true hb n he1 hk
      refine ⟨ex, t2, h2, E2, ?_, he2, hk2⟩
      unfold iter
      simp only [hv, Option.bind_some]
      exact hv2
    · exact ⟨_, t1, h1, E1, by unfold iter; simp only [hv, Option.bind_some], he1, hk⟩
    · exact ⟨_, t1, h1, E1, by unfold iter; simp only [hv, Option.bind_some], he1, hk⟩
theorem arK_ok {h : H} {ar : Option Nat} (ha : arK h ar = true) : aroundOk h ar = true := by
  cases ar with
  | none => rfl
  | some l =>
    obtain ⟨x, hx, _⟩ := loopAt_true (show loopAt h l (fun _ => true) = true from ha)
    simp only [aroundOk, hx]
theorem codeK_true {lt : Bool} {R : RK} {Rn : RunT} (hR : RKok R Rn) {N nt : Nat} {ar : Option Nat} : ∀ (c : ACode) {t : Tm} {E : Tr V} {h : H} {k : KA}, EOk live t E → codeK (compK lt live c) R N nt ar t E h k = true →
    ∃ ex t' h' E', evA Rn (fun b s => iter b N s) nt ar c t h = some (ex, t', h') ∧ EOk live t' E' ∧ k ex t' E' h' = true
  | .skip, t, E, h, k, he, hk => ⟨_, t, h, E, rfl, he, hk⟩
  | .exit id, t, E, h, k, he, hk => ⟨_, t, h, E, rfl, he, hk⟩
  | .ret, t, E, h, k, he, hk => ⟨_, t, h, E, rfl, he, hk⟩
  | .bad, t, E, h, k, he, hk => by cases hk
  | .region ops, t, E, h, k, he, hk => by
    have hk : codeK (@Option.rec (List KOper × List Nat) (fun _ => KCode) .bad (fun r => .reg r.1 (outsOf live r.2 0)) (compOps live ops [])) R N nt ar t E h k = true := hk
    cases hc : compOps live ops [] with
    | none => rw [hc] at hk; cases hk
    | some r =>
      rw [hc] at hk
      obtain ⟨t', h', loc', hv, hl, hg, hk⟩ := opsK_true hR (L := []) (L' := r.2) (loc := []) hc he (fun n d hd => by cases hd) (fun n _ => rfl) (show opsK r.1 R t E [] h (fun t' loc h' => k .normal t' (writeK (outsOf live r.2 0) loc E) h') = true from hk)
      exact ⟨_, t', h', _, by unfold evA; rw [hv]; rfl, writeK_ok he hl hg, hk⟩
  | .regionD ops, t, E, h, k, he, hk => by
    have hk : codeK (@Option.rec (List KOperD × List Nat) (fun _ => KCode) .bad (fun r => .regD r.1 (outsOf live r.2 0)) (compOpsD lt live ops [])) R N nt ar t E h k = true := hk
    cases hc : compOpsD lt live ops [] with
    | none => rw [hc] at hk; cases hk
    | some r =>
      rw [hc] at hk
      obtain ⟨t', h', loc', hs', hv, hl, hg, hk⟩ := opsDK_true hR (L := []) (L' := r.2) (loc := []) hc he (fun n d hd => by cases hd) (fun n _ => rfl) (show opsDK r.1 R t E [] h [h] (fun t' loc h' _ => k .normal t' (writeK (outsOf live r.2 0) loc E) h') = true from hk)
      exact ⟨_, t', h', _, by unfold evA; rw [hv]; rfl, writeK_ok he hl hg, hk⟩
  | .seq a b, t, E, h, k, he, hk => by
    obtain ⟨ex, t1, h1, E1, hv, he1, hk⟩ := codeK_true hR a he (show codeK (compK lt live a) R N nt ar t E h (fun e t' E' h' => exK (codeK (compK lt live b) R N nt ar t' E' h' k) (k .ret t' E' h') (fun id => k (.exit id) t' E' h') e) = true from hk)
    rcases exK_true hk with ⟨rfl, hk⟩ | ⟨rfl, hk⟩ | ⟨id, rfl, hk⟩
    · obtain ⟨ex, t2, h2, E2, hv2, he2, hk2⟩ := codeK_true hR b he1 hk
      exact ⟨ex, t2, h2, E2, by unfold evA; rw [hv]; exact hv2, he2, hk2⟩
    · exact ⟨_, t1, h1, E1, by unfold evA; rw [hv]; rfl, he1, hk⟩
    · exact ⟨_, t1, h1, E1, by unfold evA; rw [hv]; rfl, he1, hk⟩
  | .cond x a b, t, E, h, k, he, hk => by
    have hk : codeK (@Option.rec KOpd (fun _ => KCode) .bad (fun x => .cond x (compK lt live a) (compK lt live b)) (compO live [] x)) R N nt ar t E h k = true := hk
    cases hc : compO live [] x with
    | none => rw [hc] at hk; cases hk
    | some y =>
      rw [hc] at hk
      obtain ⟨c, hv, hk⟩ := vB_true (show vB false (rdK y E []) (fun c => @Bool.rec (fun _ => Bool) (codeK (compK lt live b) R N nt ar t E h k) (codeK (compK lt live a) R N nt ar t E h k) c) = true from hk)
      rw [compO_ok hc he (fun n d hd => by cases hd) (fun n _ => rfl)] at hv
      cases c with
      | true =>
        obtain ⟨ex, t2, h2, E2, hv2, he2, hk2⟩ := codeK_true hR a he hk
        exact ⟨ex, t2, h2, E2, by unfold evA; rw [hv]; exact hv2, he2, hk2⟩
      | false =>
        obtain ⟨ex, t2, h2, E2, hv2, he2, hk2⟩ := codeK_true hR b he hk
        exact ⟨ex, t2, h2, E2, by unfold evA; rw [hv]; exact hv2, he2, hk2⟩
  | .block id c, t, E, h, k, he, hk => by
    obtain ⟨ex, t1, h1, E1, hv, he1, hk⟩ := codeK_true hR c he (show codeK (compK lt live c) R N nt ar t E h (fun e t' E' h' => exK (k .normal t' E' h') (k .ret t' E' h') (fun id' => @Bool.rec (fun _ => Bool) (k (.exit id') t' E' h') (k .normal t' E' h') (Nat.beq id' id)) e) = true from hk)
    rcases exK_true hk with ⟨rfl, hk⟩ | ⟨rfl, hk⟩ | ⟨id', rfl, hk⟩
    · exact ⟨_, t1, h1, E1, by unfold evA; rw [hv]; rfl, he1, hk⟩
    · exact ⟨_, t1, h1, E1, by unfold evA; rw [hv]; rfl, he1, hk⟩
    · replace hk : @Bool.rec (fun _ => Bool) (k (.exit id') t1 E1 h1) (k .normal t1 E1 h1) (Nat.beq id' id) = true := hk
      by_cases hi : id' = id
      · rw [beq_yes hi] at hk
        exact ⟨_, t1, h1, E1, by unfold evA; rw [hv]; simp [hi], he1, hk⟩
      · rw [beq_no hi] at hk
        exact ⟨_, t1, h1, E1, by unfold evA; rw [hv]; simp [hi], he1, hk⟩
  | .loop c, t, E, h, k, he, hk => by
    obtain ⟨ex, t1, h1, E1, hv, he1, hk⟩ := iterK_true (live := live) (b := fun s => evA Rn (fun b s => iter b N s) nt ar c s.1 s.2) (fun t E h k he hk => codeK_true hR c he hk) N he (show iterK N (codeK (compK lt live c) R N nt ar) t E h k = true from hk)
    exact ⟨ex, t1, h1, E1, hv, he1, hk⟩
  | .rfn f ps a b, t, E, h, k, he, hk => by
    have hk : codeK (@Option.rec KOpd (fun _ => KCode) .bad (fun f => .rfn f ps a b) (compO live [] f)) R N nt ar t E h k = true := hk
    cases hc : compO live [] f with
    | none => rw [hc] at hk; cases hk
    | some y =>
      rw [hc] at hk
      obtain ⟨har, hk⟩ := bool_if (show @Bool.rec (fun _ => Bool) false (vF false (rdK y E []) (fun c caps => @Cal.rec (fun _ => Bool)
        (fun f => R (.fn f) (.f (.yl h.nx) [] :: caps) (pushH h (.loop { st := .ready, pend := .normal, tm := t, nt := nt, params := ps, assign := a, body := b })) (fun _ h' => loopAt h' h.nx (fun l => @Bool.rec (fun _ => Bool) false (k l.pend t E (killH h' h.nx)) (notBusy l.st))))
        (fun _ => false) c)) (arK h ar) = true from hk)
      obtain ⟨c, caps, hv, hk⟩ := vF_true hk
      rw [compO_ok hc he (fun n d hd => by cases hd) (fun n _ => rfl)] at hv
      cases c with
      | yl l => cases hk
      | fn g =>
        obtain ⟨v, h1, hv1, hk⟩ := hR _ _ _ _ (show R (.fn g) (.f (.yl h.nx) [] :: caps) (pushH h (.loop { st := .ready, pend := .normal, tm := t, nt := nt, params := ps, assign := a, body := b })) (fun _ h' => loopAt h' h.nx (fun l => @Bool.rec (fun _ => Bool) false (k l.pend t E (killH h' h.nx)) (notBusy l.st))) = true from hk)
        obtain ⟨x, hx, hk⟩ := loopAt_true hk
        obtain ⟨hb, hk⟩ := bool_if hk
        rw [pushH_eq] at hv1
        rw [killH_eq] at hk
        refine ⟨x.pend, t, h1.kill h.nx, E, ?_, he, hk⟩
        have hnb : x.st ≠ .busy := by intro hs; rw [hs] at hb; cases hb
        unfold evA
        rw [if_pos (arK_ok har), hv]
        simp only [List.cons_append, List.nil_append, hv1, Option.bind_some, hx, if_neg hnb]

/-! ### What code looks at -/
noncomputable def addG (L : List Nat) (x : AOpd) (acc : List Nat) : List Nat :=
  @AOpd.rec (fun _ => List Nat) (fun n => @Option.rec Nat (fun _ => List Nat) (@Option.rec Nat (fun _ => List Nat) (n :: acc) (fun _ => acc) (idxK acc n 0)) (fun _ => acc) (idxK L n 0)) (fun _ => acc) (fun _ => acc) x
noncomputable def addsG (L : List Nat) : List Nat → List Nat → List Nat := @List.rec Nat (fun _ => List Nat → List Nat) (fun acc => acc) (fun n _ ih acc => ih (addG L (.t n) acc))
noncomputable def opsG : List AOper → List Nat → List Nat → List Nat :=
  @List.rec AOper (fun _ => List Nat → List Nat → List Nat) (fun _ acc => acc) (fun o _ ih L acc => ih (pushN o.dst L) (addsG L o.op.tmps (@Option.rec (Nat × Bool) (fun _ => List Nat) acc (fun g => addG L (.t g.1) acc) o.guard)))
noncomputable def codeG (c : ACode) : List Nat → List Nat :=
  @ACode.rec (fun _ => List Nat → List Nat) (fun acc => acc) (fun ops acc => opsG ops [] acc) (fun ops acc => opsG ops [] acc) (fun _ _ a b acc => b (a acc)) (fun x _ _ a b acc => b (a (addG [] x acc))) (fun _ _ c acc => c acc) (fun _ c acc => c acc) (fun f _ _ _ _ _ acc => addG [] f acc) (fun _ acc => acc) (fun acc => acc) (fun acc => acc) c
noncomputable def resG : List ARes → List Nat → List Nat := @List.rec ARes (fun _ => List Nat → List Nat) (fun acc => acc) (fun r _ ih acc => ih (@ARes.rec (fun _ => List Nat) (fun d => addG [] (.t d) acc) (fun a _ _ => addG [] (.t a) acc) r))
noncomputable def setOf : List Nat → Tr Unit := @List.rec Nat (fun _ => Tr Unit) .e (fun n _ ih => putP (pos n) ih (some ()))
noncomputable def liveF (l : List Nat) (n : Nat) : Bool := @Option.rec Unit (fun _ => Bool) false (fun _ => true) (getP (pos n) (setOf l))
theorem liveF_mem : ∀ {l : List Nat} {n : Nat}, liveF l n = true → n ∈ l
  | [], n, h => by
    have : ∀ p : Pos, getP p (Tr.e : Tr Unit) = none := fun p => by induction p with | h => rfl | l p ih => exact ih | r p ih => exact ih
    unfold liveF at h
    have h : @Option.rec Unit (fun _ => Bool) false (fun _ => true) (getP (pos n) (Tr.e : Tr Unit)) = true := h
    rw [this] at h; cases h
  | m :: l, n, h => by
    unfold liveF at h
    have h : @Option.rec Unit (fun _ => Bool) false (fun _ => true) (getP (pos n) (putP (pos m) (setOf l) (some ()))) = true := h
    rw [getP_putP] at h
    by_cases hp : pos n = pos m
    · rw [pos_inj hp]; simp
    · rw [if_neg hp] at h
      exact List.mem_cons_of_mem _ (liveF_mem h)
noncomputable def tvK (t : Tm) (n : Nat) : V := @Option.rec V (fun _ => V) (.tup []) (fun v => v) (getK t n)
theorem tvK_eq (t : Tm) (n : Nat) : tvK t n = t.v n := by
  unfold tvK Tm.v
  rw [getK_eq]
  cases t.get n <;> rfl
noncomputable def envOf (t : Tm) : List Nat → Tr V := @List.rec Nat (fun _ => Tr V) .e (fun n _ ih => putP (pos n) ih (some (tvK t n)))
theorem envOf_mem (t : Tm) : ∀ {l : List Nat} {n : Nat}, n ∈ l → gE (pos n) (envOf t l) = t.v n
  | [], n, h => by cases h
  | m :: l, n, h => by
    show gE (pos n) (putP (pos m) (envOf t l) (some (tvK t m))) = _
    unfold gE
    rw [getP_putP]
    by_cases hp : pos n = pos m
    · rw [if_pos hp, pos_inj hp, ← tvK_eq]
    · rw [if_neg hp]
      exact envOf_mem t (by cases h with | head => exact absurd rfl hp | tail _ h => exact h)
theorem envOf_ok (t : Tm) (l : List Nat) : EOk (liveF l) t (envOf t l) := fun n hn => envOf_mem t (liveF_mem hn)
noncomputable def envA : List V → Nat → Tr V := @List.rec V (fun _ => Nat → Tr V) (fun _ => .e) (fun v _ ih i => putP (pos i) (ih (Nat.add i 1)) (some v))
theorem getP_e {α : Type} (p : Pos) : getP p (Tr.e : Tr α) = none := by induction p with | h => rfl | l p ih => exact ih | r p ih => exact ih
theorem envA_at : ∀ (as : List V) (i n : Nat), gE (pos n) (envA as i) = (Tm.args as i).v n
  | [], i, n => by
    show @Option.rec V (fun _ => V) (.tup []) (fun v => v) (getP (pos n) (Tr.e : Tr V)) = _
    rw [getP_e]; rfl
  | v :: as, i, n => by
    show gE (pos n) (putP (pos i) (envA as (i + 1)) (some v)) = ((Tm.args as (i + 1)).st i v).v n
    rw [Tm.v_st, ← envA_at as (i + 1) n]
    unfold gE
    rw [getP_putP]
    by_cases hp : n = i
    · subst hp; rw [if_pos rfl, if_pos rfl]
    · rw [if_neg hp, if_neg fun he => hp (pos_inj he)]

/-! ### Functions, rounds, the runner -/
noncomputable def resK (live : Nat → Bool) (E : Tr V) (h : H) : List ARes → (List V → Bool) → Bool :=
  @List.rec ARes (fun _ => (List V → Bool) → Bool) (fun K => K []) (fun r _ ih K => @ARes.rec (fun _ => Bool)
    (fun d => @Bool.rec (fun _ => Bool) false (ih (fun vs => K (gE (pos d) E :: vs))) (live d))
    (fun a n agg => @Bool.rec (fun _ => Bool) false (vP false (gE (pos a) E) (fun q => @Option.rec (Nat × Nat × Nat) (fun _ => Bool) false (fun q => @Option.rec V (fun _ => Bool) false (fun v => ih (fun ws => K (v :: ws))) ((rdB h q.1 q.2.1 q.2.2 n).bind (aggOf agg))) q)) (live a)) r)
theorem resK_true (he : EOk live t E) {h : H} : ∀ {rs : List ARes} {K : List V → Bool}, resK live E h rs K = true → ∃ vs, evRes t h rs = some vs ∧ K vs = true
  | [], K, hk => ⟨[], rfl, hk⟩
  | .tmp d :: rs, K, hk => by
    obtain ⟨hl, hk⟩ := bool_if (show @Bool.rec (fun _ => Bool) false (resK live E h rs (fun vs => K (gE (pos d) E :: vs))) (live d) = true from hk)
    obtain ⟨vs, hv, hk⟩ := resK_true he hk
    rw [he d hl] at hk
    exact ⟨_, by simp only [evRes, hv, Option.bind_some], hk⟩
  | .cell a n agg :: rs, K, hk => by
    obtain ⟨hl, hk⟩ := bool_if (show @Bool.rec (fun _ => Bool) false (vP false (gE (pos a) E) (fun q => @Option.rec (Nat × Nat × Nat) (fun _ => Bool) false (fun q => @Option.rec V (fun _ => Bool) false (fun v => resK live E h rs (fun ws => K (v :: ws))) ((rdB h q.1 q.2.1 q.2.2 n).bind (aggOf agg))) q)) (live a) = true from hk)
    obtain ⟨q, hv, hk⟩ := vP_true hk
    rw [he a hl] at hv
    cases q with
    | none => cases hk
    | some q =>
      have hk : @Option.rec V (fun _ => Bool) false (fun v => resK live E h rs (fun ws => K (v :: ws))) ((rdB h q.1 q.2.1 q.2.2 n).bind (aggOf agg)) = true := hk
      rw [rdB_eq] at hk
      cases hr : (h.rd q.1 q.2.1 q.2.2 n).bind (aggOf agg) with
      | none => rw [hr] at hk; cases hk
      | some v =>
        rw [hr] at hk
        obtain ⟨vs, hrs, hk⟩ := resK_true he hk
        obtain ⟨x, hx1, hx2⟩ := Option.bind_eq_some_iff.1 hr
        exact ⟨_, by simp only [evRes, hv, hx1, Option.bind_some, hx2, hrs], hk⟩
noncomputable def resVK : List V → V := @List.rec V (fun _ => V) (.tup []) (fun v vs _ => @List.rec V (fun _ => V) v (fun w ws _ => .tup (v :: w :: ws)) vs)
theorem resVK_eq (vs : List V) : resVK vs = resV vs := by
  match vs with
  | [] => rfl
  | [v] => rfl
  | v :: w :: ws => rfl
noncomputable def bodyK (lt : Bool) (code : ACode) (rs : List ARes) (nt N : Nat) (R : RK) (as : List V) (h : H) (K : KV) (live : Nat → Bool) : Bool :=
  codeK (compK lt live code) R N nt none (Tm.args as 0) (envA as 0) h (fun ex _ E h' => exK (resK live E h' rs (fun vs => K (resVK vs) h')) (resK live E h' rs (fun vs => K (resVK vs) h')) (fun _ => false) ex)
noncomputable def fnL (lt : Bool) (af : AFunc) (N : Nat) (R : RK) (as : List V) (h : H) (K : KV) : Bool :=
  @AFunc.rec (fun _ => Bool) (fun nt rs code => @Bool.rec (fun _ => Bool) false (bodyK lt code rs nt N R as h K (liveF (resG rs (codeG code [])))) (Nat.ble (lenK as) nt)) af
theorem fnL_true {lt : Bool} {R : RK} {Rn : RunT} (hR : RKok R Rn) {af : AFunc} {N : Nat} {as : List V} {h : H} {K : KV} (hk : fnL lt af N R as h K = true) : ∃ v h', evFn Rn (fun b s => iter b N s) af as h = some (v, h') ∧ K v h' = true := by
  obtain ⟨nt, rs, code⟩ := af
  obtain ⟨hb, hk⟩ := bool_if (show @Bool.rec (fun _ => Bool) false (bodyK lt code rs nt N R as h K (liveF (resG rs (codeG code [])))) (Nat.ble (lenK as) nt) = true from hk)
  have hb := Nat.le_of_ble_eq_true hb
  rw [lenK_eq] at hb
  unfold bodyK at hk
  generalize liveF (resG rs (codeG code [])) = live at hk
  obtain ⟨ex, t1, h1, E1, hv, he1, hk⟩ := codeK_true hR code (fun n _ => envA_at as 0 n) hk
  unfold evFn
  simp only
  rw [if_pos hb, hv]
  rcases exK_true hk with ⟨rfl, hk⟩ | ⟨rfl, hk⟩ | ⟨id', rfl, hk⟩
  · obtain ⟨vs, hr, hk⟩ := resK_true he1 hk
    rw [resVK_eq] at hk
    exact ⟨_, h1, by simp only [Option.bind_some, hr], hk⟩
  · obtain ⟨vs, hr, hk⟩ := resK_true he1 hk
    rw [resVK_eq] at hk
    exact ⟨_, h1, by simp only [Option.bind_some, hr], hk⟩
  · cases hk
noncomputable def isN : Ex → Bool := @Ex.rec (fun _ => Bool) true (fun _ => false) false
noncomputable def stN : Ex → LoopState := @Ex.rec (fun _ => LoopState) .ready (fun _ => .done) .done
noncomputable def fnK (af : AFunc) (N : Nat) (R : RK) (as : List V) (h : H) (K : KV) : Bool := fnL false af N R as h K
theorem fnK_true {R : RK} {Rn : RunT} (hR : RKok R Rn) {af : AFunc} {N : Nat} {as : List V} {h : H} {K : KV} (hk : fnK af N R as h K = true) : ∃ v h', evFn Rn (fun b s => iter b N s) af as h = some (v, h') ∧ K v h' = true := fnL_true hR hk
noncomputable def roundK (l : Nat) (x : LoopSt) (N : Nat) (R : RK) (as : List V) (h : H) (K : KV) : Bool :=
  @LoopSt.rec (fun _ => Bool) (fun _ _ tm nt params assign body => @Bool.rec (fun _ => Bool) false
    (codeK (compK false (liveF (codeG (.seq assign body) [])) assign) R N nt (some l) (stParams tm params as) (envOf (stParams tm params as) (codeG (.seq assign body) [])) h (fun ex t2 E2 h2 =>
      exK (loopAt h2 l (fun L1 => @Bool.rec (fun _ => Bool) false (codeK (compK false (liveF (codeG (.seq assign body) [])) body) R N nt (some l) t2 E2 (setH h2 l (.loop { L1 with st := .busy })) (fun ex3 _ _ h3 =>
        loopAt h3 l (fun L2 => K (.b (isN ex3)) (setH h3 l (.loop { L2 with st := stN ex3, pend := ex3 }))))) (isReady L1.st))) false (fun _ => false) ex))
    (Nat.beq (lenK as) (lenK params))) x
theorem roundK_true {R : RK} {Rn : RunT} (hR : RKok R Rn) {l : Nat} {x : LoopSt} {N : Nat} {as : List V} {h : H} {K : KV} (hk : roundK l x N R as h K = true) : ∃ v h', evRound Rn (fun b s => iter b N s) l x as h = some (v, h') ∧ K v h' = true := by
  obtain ⟨st, pend, tm, nt, params, assign, body⟩ := x
  obtain ⟨hb, hk⟩ := bool_if hk
  have hb := Nat.eq_of_beq_eq_true hb
  rw [lenK_eq, lenK_eq] at hb
  obtain ⟨ex, t2, h2, E2, hv, he2, hk⟩ := codeK_true hR assign (envOf_ok _ _) hk
  rcases exK_true hk with ⟨rfl, hk⟩ | ⟨rfl, hk⟩ | ⟨id', rfl, hk⟩
  · obtain ⟨L1, hL1, hk⟩ := loopAt_true hk
    obtain ⟨hst, hk⟩ := bool_if hk
    rw [setH_eq] at hk
    obtain ⟨ex3, t3, h3, E3, hv3, he3, hk⟩ := codeK_true hR body he2 hk
    obtain ⟨L2, hL2, hk⟩ := loopAt_true hk
    rw [setH_eq] at hk
    have hst : L1.st = .ready := by cases hs : L1.st <;> rw [hs] at hst <;> first | rfl | (cases hst)
    have e1 : isN ex3 = decide (ex3 = .normal) := by cases ex3 <;> rfl
    have e2 : stN ex3 = if ex3 = .normal then .ready else .done := by cases ex3 <;> rfl
    rw [e1, e2] at hk
    refine ⟨_, _, ?_, hk⟩
    unfold evRound
    simp only
    rw [if_pos hb, hv]
    simp only [Option.bind_some, hL1, hst, if_true, hv3, hL2]
  · cases hk
  · cases hk
noncomputable def calK (pr : Prog) (N : Nat) (R : RK) (c : Cal) (as : List V) (h : H) (K : KV) : Bool :=
  @Cal.rec (fun _ => Bool)
    (fun f => @Option.rec (List V → H → Option (V × H)) (fun _ => Bool) (@Option.rec AFunc (fun _ => Bool) false (fun af => fnK af N R as h K) (pr.fn f)) (fun g => @Bool.rec (fun _ => Bool) (@Option.rec (V × H) (fun _ => Bool) false (fun r => K r.1 r.2) (g as h)) false (isYl as)) (pr.ext f))
    (fun l => loopAt h l (fun x => roundK l x N R as h K)) c
noncomputable def runK (pr : Prog) : Nat → RK := @Nat.rec (fun _ => RK) (fun _ _ _ _ => false) (fun n ih c as h K => calK pr n ih c as h K)
theorem runK_true (pr : Prog) : ∀ n : Nat, RKok (runK pr n) (runN pr n)
  | 0 => fun c as h K hk => by cases hk
  | n + 1 => fun c as h K hk => by
    have hR := runK_true pr n
    have hk : calK pr n (runK pr n) c as h K = true := hk
    cases c with
    | fn f =>
      have hk : @Option.rec (List V → H → Option (V × H)) (fun _ => Bool) (@Option.rec AFunc (fun _ => Bool) false (fun af => fnK af n (runK pr n) as h K) (pr.fn f)) (fun g => @Bool.rec (fun _ => Bool) (@Option.rec (V × H) (fun _ => Bool) false (fun r => K r.1 r.2) (g as h)) false (isYl as)) (pr.ext f) = true := hk
      cases hx : pr.ext f with
      | some g =>
        rw [hx] at hk
        have hk : @Bool.rec (fun _ => Bool) (@Option.rec (V × H) (fun _ => Bool) false (fun r => K r.1 r.2) (g as h)) false (isYl as) = true := hk
        cases hy : isYl as with
        | true => rw [hy] at hk; cases hk
        | false =>
          rw [hy] at hk
          have hk : @Option.rec (V × H) (fun _ => Bool) false (fun r => K r.1 r.2) (g as h) = true := hk
          cases hg : g as h with
          | none => rw [hg] at hk; cases hk
          | some r =>
            rw [hg] at hk
            exact ⟨r.1, r.2, by simp only [runN, evCal, hx, hy]; exact hg, hk⟩
      | none =>
        rw [hx] at hk
        have hk : @Option.rec AFunc (fun _ => Bool) false (fun af => fnK af n (runK pr n) as h K) (pr.fn f) = true := hk
        cases hf : pr.fn f with
        | none => rw [hf] at hk; cases hk
        | some af =>
          rw [hf] at hk
          obtain ⟨v, h', hv, hk⟩ := fnK_true hR hk
          exact ⟨v, h', by simp only [runN, evCal, hx, hf]; exact hv, hk⟩
    | yl l =>
      obtain ⟨x, hx, hk⟩ := loopAt_true (show loopAt h l (fun x => roundK l x n (runK pr n) as h K) = true from hk)
      obtain ⟨v, h', hv, hk⟩ := roundK_true hR hk
      exact ⟨v, h', by simp only [runN, evCal, hx]; exact hv, hk⟩

noncomputable def yesK (pr : Prog) (n f : Nat) : Bool := runK pr n (.fn f) [] ⟨4096, .e⟩ (fun v _ => vB false v (fun b => b))
theorem yesK_yes {pr : Prog} {n f : Nat} (h : yesK pr n f = true) : yes (runN pr n (.fn f) [] ⟨4096, .e⟩) = true := by
  obtain ⟨v, h', hv, hk⟩ := runK_true pr n _ _ _ _ h
  obtain ⟨b, rfl, hb⟩ := vB_true hk
  have hb : b = true := hb
  rw [hv, hb]; rfl
end Am
