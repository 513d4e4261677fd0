/- AmSound3: rounds, results, functions, the runner. -/
import Derived.Test.YtibmhhdgcbaofaaDoorAmSound2
namespace Am
set_option linter.unusedVariables false
set_option linter.unusedSimpArgs false
open Go (IntKind BinOp UnOp Value Program TypeId TypeDesc Operand Oper Code Tmp World Addr Obj Act Fence)

variable {P : Program} {B : Nat} {e e' : Emb} {h h' : H} {w w' : World} {nt N : Nat}

/-! ### Rounds -/
theorem stParams_sound : ∀ {ps : List Nat} {args : List V} {cargs : List Value} {t : Tm} {tmps : Array Value}, VRL e args cargs → args.length = ps.length → (∀ p ∈ ps, p < nt) → TR e nt t { tmps := tmps, defers := [] } →
    TR e nt (stParams t ps args) { tmps := (ps.zip cargs).foldl (fun tmps q => tmps.setIfInBounds q.1 q.2) tmps, defers := [] }
  | [], args, cargs, t, tmps, _, _, _, ht => by simp [stParams]; exact ht
  | p :: ps, [], cargs, t, tmps, _, hl, _, _ => by simp at hl
  | p :: ps, v :: vs, cargs, t, tmps, hv, hl, hp, ht => by
    cases hv with
    | cons _ u _ us h1 h2 =>
      simp only [stParams, List.zip_cons_cons, List.foldl_cons]
      refine stParams_sound h2 (by simpa using hl) (fun q hq => hp q (List.mem_cons_of_mem _ hq)) ?_
      have := ht.put (d := some p) (by simp [dstOk]; exact hp p (by simp)) h1
      exact this

theorem Stp.loopSet (s : Sim (CC P) B e h w) {b : Nat} {L L' : LoopSt} {l : Loc} {r' : Go.Loop} (hb : h.get b = some (.loop L)) (hl : e b = some l) (hr : LoopR e L' r' ∧ CC P L'.nt r'.assign L'.assign ∧ CC P L'.nt r'.body L'.body) :
    Stp (CC P) B e h w e (h.set b (.loop L')) (w.putObj l.cb (.loop r')) := by
  obtain ⟨l0, hl0, _, hlt, _⟩ := s.blk b _ hb
  rw [hl] at hl0; cases hl0
  refine Stp.set s hb rfl hl (fun c hc => Go.World.putObj_heap_other hc) Go.World.putObj_size ?_
  exact ⟨r', Go.World.putObj_heap_same hlt, hr.1, hr.2.1, hr.2.2⟩

theorem round_sound {R : RunT} (hR : RunOk P R) (hD : DrawSound P R) (k : Nat) {l : Nat} {L : LoopSt} {args : List V} {v : V} (hg : h.get l = some (.loop L)) (hev : evRound R (fun b s => iter b k s) l L args h = some (v, h'))
    {cargs : Array Value} {F : Fence} (n : Nat) (hv : VRL e args cargs.toList) (s : Sim (CC P) B e h w) (hF : wideF F) {loc : Loc} (hloc : e l = some loc) :
    InvPost F n P (CallPost P B e h w v h') ((Go.Instr.yield loc.cb cargs).run P w) := by
  obtain ⟨loc', r, hloc', hr, hLR, hca, hcb, hlt⟩ := loop_blk s hg
  rw [hloc] at hloc'; cases hloc'
  unfold evRound at hev
  split at hev
  · rename_i hlen
    have hps : cargs.size = r.params.size := by
      have h1 := hv.length
      have h2 := congrArg List.length hLR.2.2.2.2.1
      simp at h1 h2; omega
    rw [Go.run_yield hr hps]
    simp only [InvPost]
    obtain ⟨⟨x, t1, h1⟩, hev1, hev⟩ := Option.bind_eq_some_iff.1 hev
    refine Go.roundIn_of_wpIn (hF.1 _) ?_
    have hFr : wideF (F.inRound loc.cb) := hF
    have ht0 : TR e L.nt (stParams L.tm L.params args) { tmps := (r.params.zip cargs).foldl (fun tmps (t, a) => tmps.setIfInBounds t a) r.tmps, defers := [] } := by
      have := stParams_sound (nt := L.nt) (ps := L.params) (t := L.tm) (tmps := r.tmps) hv (by simpa using hlen) hLR.2.2.2.2.2 ⟨hLR.2.2.1, hLR.2.2.2.1⟩
      have heq : (L.params.zip cargs.toList).foldl (fun tmps q => tmps.setIfInBounds q.1 q.2) r.tmps = (r.params.zip cargs).foldl (fun tmps (t, a) => tmps.setIfInBounds t a) r.tmps := by
        rw [hLR.2.2.2.2.1, ← Array.foldl_toList, Array.toList_zip]
      rw [heq] at this
      exact this
    refine Go.wpIn_mono (evA_sound (N := 0) hR hD k hFr r.assign hca hev1 ⟨loc, hloc, rfl⟩ (Nat.zero_le _) s ht0 (rs := []) ⟨rfl, List.nodup_nil, fun _ h => by simp at h⟩) fun E a1 w1 hp => ?_
    obtain ⟨hE, e1, rs1, ht1, hs1, hd1⟩ := hp
    cases x with
    | normal =>
      cases E <;> simp [ExR] at hE
      simp only [Go.Exit.then]
      simp only at hev
      split at hev
      · rename_i L1 hL1
        split at hev
        · rename_i hrd
          obtain ⟨⟨y, t2, h2⟩, hev2, hev3⟩ := Option.bind_eq_some_iff.1 hev
          obtain ⟨loc1, r1, hloc1, hr1, hLR1, hca1, hcb1, _⟩ := loop_blk hs1.sim hL1
          have hll := hs1.le _ _ hloc
          rw [hll] at hloc1; cases hloc1
          have hst1 : r1.state = .ready := by have := hLR1.1; rw [hrd] at this; exact this
          refine ⟨_, Go.run_beginRound hr1 hst1, ?_⟩
          have stb := Stp.loopSet hs1.sim hL1 hll (L' := { L1 with st := .busy }) (r' := { r1 with state := .busy }) ⟨⟨rfl, hLR1.2.1, hLR1.2.2.1, hLR1.2.2.2.1, hLR1.2.2.2.2⟩, hca1, hcb1⟩
          have hd2 := hd1.step stb
          refine Go.wpIn_mono (evA_sound (N := 0) hR hD k hFr r.body hcb hev2 ⟨loc, hll, rfl⟩ (Nat.zero_le _) stb.sim ht1 hd2) fun E a2 w2 hp => ?_
          obtain ⟨hE, e2, rs2, ht2, hs2, hd3⟩ := hp
          simp only at hev3
          split at hev3
          · rename_i L2 hL2
            simp at hev3
            obtain ⟨rfl, rfl⟩ := hev3
            obtain ⟨loc2, r2, hloc2, hr2, hLR2, hca2, hcb2, _⟩ := loop_blk hs2.sim hL2
            have hll2 := hs2.le _ _ hll
            rw [hll2] at hloc2; cases hloc2
            cases y with
            | normal =>
              cases E <;> simp [ExR] at hE
              refine ⟨_, _, Go.run_endRound none hr2, _, rfl, e2, ?_, (hs1.trans stb).trans (hs2.trans (Stp.loopSet hs2.sim hL2 hll2 ⟨⟨?_, ?_, hLR2.2.2.1, hLR2.2.2.2.1, hLR2.2.2.2.2⟩, hca2, hcb2⟩))⟩
              · exact .b true
              · simp
              · simp
            | exit i =>
              cases E <;> simp [ExR] at hE
              subst hE
              refine ⟨_, _, Go.run_endRound (some (.exit i)) hr2, _, rfl, e2, ?_, (hs1.trans stb).trans (hs2.trans (Stp.loopSet hs2.sim hL2 hll2 ⟨⟨?_, ?_, hLR2.2.2.1, hLR2.2.2.2.1, hLR2.2.2.2.2⟩, hca2, hcb2⟩))⟩
              · exact .b false
              · simp
              · simp
            | ret =>
              cases E <;> simp [ExR] at hE
              refine ⟨_, _, Go.run_endRound (some .ret) hr2, _, rfl, e2, ?_, (hs1.trans stb).trans (hs2.trans (Stp.loopSet hs2.sim hL2 hll2 ⟨⟨?_, ?_, hLR2.2.2.1, hLR2.2.2.2.1, hLR2.2.2.2.2⟩, hca2, hcb2⟩))⟩
              · exact .b false
              · simp
              · simp
          · simp at hev3
        · simp at hev
      · simp at hev
    | exit i => simp at hev
    | ret => simp at hev
  · simp at hev

/-! ### Results -/
def resOf (tmps : Array Value) : Go.ResultVar → Go.Sem Value
  | .tmp t => pure (tmps.getD t Go.undef)
  | .cell a t => do Go.loadVar t (← Go.asAddr (tmps.getD a Go.undef))
theorem results_eq (fn : Go.Func) (tmps : Array Value) : Go.results fn tmps = (do let vs ← fn.results.mapM (resOf tmps); pure (if h : vs.size = 1 then vs[0] else .tuple vs)) := by
  refine congrArg (fun (f : Go.ResultVar → Go.Sem Value) => (do let vs ← fn.results.mapM f; pure (if h : vs.size = 1 then vs[0] else .tuple vs) : Go.Sem Value)) (?_ : _ = resOf tmps)
  funext r; cases r <;> rfl

theorem results_list {t : Tm} {a : Act} (s : Sim (CC P) B e h w) (ht : TR e nt t a) : ∀ {rs : List Go.ResultVar} {ars : List ARes} {vs : List V}, compRes P rs = some ars → evRes t h ars = some vs →
    ∃ us, (rs.mapM (resOf a.tmps)).run P w = .ok us w ∧ VRL e vs us
  | [], ars, vs, hc, hev => by
    simp [compRes] at hc; subst hc
    simp [evRes] at hev; subst hev
    exact ⟨[], by simp, .nil⟩
  | .tmp d :: rs, ars, vs, hc, hev => by
    unfold compRes at hc
    obtain ⟨xs, hxs, rfl⟩ := Option.map_eq_some_iff.1 hc
    unfold evRes at hev
    obtain ⟨ws, hws, hev⟩ := Option.bind_eq_some_iff.1 hev
    cases hev
    obtain ⟨us, h1, h2⟩ := results_list s ht hxs hws
    refine ⟨a.tmps.getD d Go.undef :: us, ?_, .cons _ _ _ _ (ht.get d) h2⟩
    rw [List.mapM_cons]
    simp [Go.Sem.run_bind, resOf, h1, Go.Result.andThen]
  | .cell x ty :: rs, ars, vs, hc, hev => by
    unfold compRes at hc
    obtain ⟨n, hn, hc⟩ := Option.bind_eq_some_iff.1 hc
    obtain ⟨g, hg, hc⟩ := Option.bind_eq_some_iff.1 hc
    split at hc
    · rename_i hgn
      obtain ⟨xs, hxs, rfl⟩ := Option.map_eq_some_iff.1 hc
      unfold evRes at hev
      split at hev
      · rename_i b r f hx
        obtain ⟨cs, hcs, hev⟩ := Option.bind_eq_some_iff.1 hev
        obtain ⟨v, hv, hev⟩ := Option.bind_eq_some_iff.1 hev
        obtain ⟨ws, hws, hev⟩ := Option.bind_eq_some_iff.1 hev
        cases hev
        obtain ⟨us, h1, h2⟩ := results_list s ht hxs hws
        have hp := ht.get x
        rw [hx] at hp
        obtain ⟨l, hl, hu⟩ := hp.p_inv
        obtain ⟨u, hrun, hvu⟩ := loadVar_sound (P := P) s hn hg hgn hl hcs hv
        refine ⟨u :: us, ?_, .cons _ _ _ _ hvu h2⟩
        rw [List.mapM_cons]
        simp [Go.Sem.run_bind, resOf, hu, Go.asAddr, hrun, h1, Go.Result.andThen]
      · simp at hev
    · simp at hc

theorem results_sound {t : Tm} {a : Act} (s : Sim (CC P) B e h w) (ht : TR e nt t a) {fn : Go.Func} {ars : List ARes} {vs : List V} (hc : compRes P fn.results.toList = some ars) (hev : evRes t h ars = some vs) :
    ∃ u, (Go.results fn a.tmps).run P w = .ok u w ∧ VR e (resV vs) u := by
  obtain ⟨us, h1, h2⟩ := results_list s ht hc hev
  have h3 : (fn.results.mapM (resOf a.tmps)).run P w = .ok us.toArray w := by
    rw [Array.mapM_eq_mapM_toList]
    simp [Go.Sem.run_bind, h1, Go.Result.andThen]
  cases h2 with
  | nil =>
    refine ⟨.tuple #[], ?_, .tup _ _ .nil⟩
    rw [results_eq, Go.Sem.run_bind]; simp only [h3, Go.Result.andThen]; rfl
  | cons v u vs' us' hv hvs =>
    cases hvs with
    | nil =>
      refine ⟨u, ?_, hv⟩
      rw [results_eq, Go.Sem.run_bind]; simp only [h3, Go.Result.andThen]; rfl
    | cons v2 u2 vs'' us'' hv2 hvs =>
      refine ⟨.tuple (u :: u2 :: us'').toArray, ?_, .tup _ _ (.cons _ _ _ _ hv (.cons _ _ _ _ hv2 hvs))⟩
      rw [results_eq, Go.Sem.run_bind]; simp only [h3, Go.Result.andThen]
      have hne : (u :: u2 :: us'').toArray.size ≠ 1 := by simp
      rw [dif_neg hne]; rfl

/-! ### Functions -/
theorem leaves_sound {F : Fence} {n : Nat} {fn : Go.Func} {a : Act} {t : Tm} {ars : List ARes} {vs : List V} (hc : compRes P fn.results.toList = some ars) (ht : TR e' nt t a) (hev : evRes t h' ars = some vs) :
    ∀ (rs : List Nat) (w' : World), Stp (CC P) B e h w e' h' w' → DefOk w.heap.size e' h' w' (rs.map fun r => { target := .collected r, args := #[] }) rs →
      Go.LeavesInM F n P fn a.tmps (fun E w'' => ∃ u, E = .returned u ∧ CallPost P B e h w (resV vs) h' u w'') (rs.map fun r => { target := .collected r, args := #[] }) .returning w'
  | [], w', st, hd => by
    obtain ⟨u, h1, h2⟩ := results_sound st.sim ht hc hev
    exact ⟨u, h1, u, rfl, e', h2, st⟩
  | r :: rs, w', st, hd => by
    obtain ⟨h1, h2, h3, h4⟩ := hd.at_ r (by simp)
    refine ⟨by simp, .inl ⟨r, _, rfl, Go.run_takeDeferred h1, ?_⟩⟩
    refine leaves_sound hc ht hev rs _ (st.aside h3 h4 _) ⟨rfl, (List.nodup_cons.1 hd.nd).2, fun q hq => ?_⟩
    obtain ⟨k1, k2, k3, k4⟩ := hd.at_ q (by simp [hq])
    have hne : q ≠ r := fun hh => (List.nodup_cons.1 hd.nd).1 (hh ▸ hq)
    exact ⟨by rw [Go.World.putObj_heap_other hne]; exact k1, by rw [Go.World.putObj_size]; exact k2, k3, k4⟩

theorem args_sound : ∀ {args : List V} {cargs : List Value} (i : Nat), VRL e args cargs → ∀ n, VR e ((Tm.args args i).v n) (if n < i then Go.undef else cargs.getD (n - i) Go.undef)
  | [], _, i, hv, n => by
    cases hv
    have : (Tm.args [] i).v n = .un := by simp [Tm.args, Tm.v, Tr.get]
    rw [this]
    split
    · exact VR.un
    · simpa using VR.un
  | v :: vs, cargs, i, hv, n => by
    cases hv with
    | cons _ u _ us h1 h2 =>
      simp only [Tm.args, Tm.v_st]
      by_cases hn : n = i
      · subst hn; simpa using h1
      · rw [if_neg hn]
        have := args_sound (i + 1) h2 n
        by_cases hlt : n < i
        · rw [if_pos (by omega)] at this; rw [if_pos hlt]; exact this
        · rw [if_neg (by omega)] at this; rw [if_neg hlt]
          have he : n - i = (n - (i + 1)) + 1 := by omega
          rw [he]; simpa using this

theorem fn_sound {R : RunT} (hR : RunOk P R) (hD : DrawSound P R) (k : Nat) {f : Nat} {fn : Go.Func} {af : AFunc} (hf : P.funcs[f]? = some fn) (hc : compF P fn = some af) {args : List V} {v : V} (hev : evFn R (fun b s => iter b k s) af args h = some (v, h'))
    {cargs : Array Value} {F : Fence} (n : Nat) (hv : VRL e args cargs.toList) (s : Sim (CC P) B e h w) (hF : wideF F) :
    InvPost F n P (CallPost P B e h w v h') ((Go.callFunc f cargs).run P w) ∧ ∀ w, (Go.callFunc f cargs).run P w = .ok (.enter f cargs) w := by
  unfold compF at hc
  obtain ⟨c, hb, hc⟩ := Option.bind_eq_some_iff.1 hc
  obtain ⟨ac, hac, hc⟩ := Option.bind_eq_some_iff.1 hc
  obtain ⟨ars, hars, hc⟩ := Option.bind_eq_some_iff.1 hc
  split at hc
  · simp at hc
  · rename_i hname
    simp at hc; subst hc
    have hent : ∀ w, (Go.callFunc f cargs).run P w = .ok (.enter f cargs) w := fun w => by
      have hn : fn.name ≠ "runtime.NumGoroutine" := by simpa using hname
      simp [Go.callFunc, Go.Sem.run_bind, hf, hn, hb, Go.Result.andThen]
    refine ⟨?_, hent⟩
    rw [hent]
    simp only [InvPost]
    unfold evFn at hev
    split at hev
    · rename_i hlen
      obtain ⟨⟨x, t1, h1⟩, hev1, hev⟩ := Option.bind_eq_some_iff.1 hev
      have hFp : wideF F.plain := hF
      have hsz : cargs.size ≤ fn.ntmps := by have := hv.length; simp at this hlen; omega
      have ht0 : TR e fn.ntmps (Tm.args args 0) { tmps := cargs ++ Array.replicate (fn.ntmps - cargs.size) Go.undef, defers := [] } := by
        refine ⟨by simp; omega, fun q => ?_⟩
        have := args_sound 0 hv q
        simp only [Nat.not_lt_zero, if_false, Nat.sub_zero] at this
        refine (congrArg (VR e _) ?_).mp this
        simp only [Array.getD_eq_getD_getElem?, Array.getElem?_append, List.getD_eq_getElem?_getD, Array.getElem?_toList]
        by_cases hq : q < cargs.size
        · rw [if_pos hq]
        · rw [if_neg hq, Array.getElem?_eq_none (by omega)]
          by_cases hq2 : q - cargs.size < fn.ntmps - cargs.size
          · simp [Array.getElem?_replicate, hq2]
          · simp [Array.getElem?_replicate, hq2]
      have main : Go.CallsIn F.plain n P f cargs w fun E w'' => ∃ u, E = .returned u ∧ CallPost P B e h w v h' u w'' := by
        refine Go.callsIn_of_wp_marks hf hb (hF.1 _) ?_ rfl
        refine Go.wpIn_mono (evA_sound (N := w.heap.size) hR hD k hFp c hac hev1 rfl (Nat.le_refl _) s ht0 (rs := []) ⟨rfl, List.nodup_nil, fun _ h => by simp at h⟩) fun E a1 w1 hp => ?_
        obtain ⟨hE, e1, rs1, ht1, hs1, hd1⟩ := hp
        have fin : ∀ {vs : List V}, evRes t1 h1 ars = some vs → v = resV vs → h' = h1 → Go.LeavesInM F.plain n P fn a1.tmps (fun E w'' => ∃ u, E = .returned u ∧ CallPost P B e h w v h' u w'') a1.defers .returning w1 := by
          intro vs hvs hv' hh'
          subst hv'; subst hh'
          have heq := hd1.eq
          rw [heq]
          exact leaves_sound hars ht1 hvs rs1 w1 hs1 ⟨rfl, hd1.nd, hd1.at_⟩
        cases x with
        | normal =>
          cases E <;> simp [ExR] at hE
          simp only at hev
          obtain ⟨vs, hvs, hev⟩ := Option.bind_eq_some_iff.1 hev
          simp at hev
          exact fin hvs hev.1.symm hev.2.symm
        | ret =>
          cases E <;> simp [ExR] at hE
          simp only at hev
          obtain ⟨vs, hvs, hev⟩ := Option.bind_eq_some_iff.1 hev
          simp at hev
          exact fin hvs hev.1.symm hev.2.symm
        | exit i => simp at hev
      exact main
    · simp at hev

/-! ### The runner -/
/-- What is taken for granted of a function: as the model has it. -/
def ExtOk (P : Program) (pr : Prog) : Prop := ∀ (f : Nat) (g : List V → H → Option (V × H)), pr.ext f = some g → ∀ (args : List V) (h : H) (v : V) (h' : H), g args h = some (v, h') →
  ∀ (B : Nat) (e : Emb) (w : World) (cargs : Array Value) (F : Fence) (n : Nat), VRL e args cargs.toList → Sim (CC P) B e h w → wideF F → InvPost F n P (CallPost P B e h w v h') ((Go.callFunc f cargs).run P w)

structure ProgOk (P : Program) (pr : Prog) : Prop where
  fn : ∀ f af, pr.fn f = some af → ∃ fn, P.funcs[f]? = some fn ∧ compF P fn = some af
  ext : ExtOk P pr
  draw : ∀ R, RunOk P R → DrawSound P R

theorem run_sound {pr : Prog} (hp : ProgOk P pr) : ∀ n, RunOk P (runN pr n)
  | 0 => fun c args h v h' hev => by simp [runN] at hev
  | n + 1 => fun c args h v h' hev B e w cargs F m hv s hF => by
    have hR := run_sound hp n
    have hD := hp.draw _ hR
    simp only [runN] at hev
    cases c with
    | fn f =>
      simp only [evCal] at hev
      split at hev
      · rename_i g hg
        split at hev
        · simp at hev
        · rename_i hyl
          exact ⟨hp.ext f g hg args h v h' hev B e w cargs F m hv s hF, fun hh => absurd hh hyl⟩
      · split at hev
        · rename_i af haf
          obtain ⟨fn, hf, hc⟩ := hp.fn f af haf
          obtain ⟨h1, h2⟩ := fn_sound hR hD n hf hc hev m hv s hF
          exact ⟨h1, fun _ => h2⟩
        · simp at hev
    | yl l =>
      simp only [evCal] at hev
      intro loc hloc
      split at hev
      · rename_i L hL
        exact round_sound hR hD n hL hev m hv s hF hloc
      · simp at hev

end Am
