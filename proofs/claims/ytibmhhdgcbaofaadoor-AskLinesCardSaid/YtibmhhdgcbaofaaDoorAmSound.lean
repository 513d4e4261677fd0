/- AmSound: what the abstract machine's code does, the model's code does. -/
import Derived.Test.YtibmhhdgcbaofaaDoorAmOps8
import Derived.Test.YtibmhhdgcbaofaaDoorAmComp2
import Derived.RangeFuncRecord
import Derived.RangeFuncNested
import Derived.TacticsIn
import Derived.LoopNIn
import Derived.OrdersIn
namespace Am
set_option linter.unusedVariables false
set_option linter.unusedSimpArgs false
open Go (IntKind BinOp UnOp Value Program TypeId TypeDesc Operand Oper Code Tmp World Addr Obj Act Fence)

/-- The code of a loop's record. -/
def glOf (P : Program) (g : Nat) : Option Loc := if g < 4096 then some ⟨g, 0, ((P.globals[g]?).bind fun x => szOf P x.type).getD 1, 1⟩ else none
def CC (P : Program) : Cx := ⟨fun nt c a => compC P nt c = some a, glOf P⟩

theorem glOf_at {P : Program} : ∀ g, g < 4096 → ∃ l, glOf P g = some l ∧ l.cb = g ∧ l.sh = 0 := fun g h => ⟨_, by unfold glOf; rw [if_pos h], rfl, rfl⟩

variable {P : Program} {B : Nat} {e e' : Emb} {h h' : H} {w w' : World} {nt : Nat}

/-- The marks among the deferred calls: one for each outermost range over a function. -/
structure DefOk (N : Nat) (e : Emb) (h : H) (w : World) (ds : List Go.Deferred) (rs : List Nat) : Prop where
  eq : ds = rs.map fun r => { target := .collected r, args := #[] }
  nd : rs.Nodup
  at_ : ∀ r ∈ rs, w.heap[r]? = some (.deferred (some [])) ∧ r < w.heap.size ∧ ¬ Img e h r ∧ N ≤ r

theorem Owns.img {c : Nat} (h1 : Owns e h c) : Img e h c := let ⟨b, x, l, a, _, c1, d⟩ := h1; ⟨b, x, l, a, c1, d⟩

theorem DefOk.step {N : Nat} {ds : List Go.Deferred} {rs : List Nat} {C : Cx} (hd : DefOk N e h w ds rs) (s : Stp C B e h w e' h' w') : DefOk N e' h' w' ds rs :=
  ⟨hd.eq, hd.nd, fun r hr => by
    obtain ⟨h1, h2, h3, h4⟩ := hd.at_ r hr
    refine ⟨by rw [s.keep r h2 (fun o => h3 o.img)]; exact h1, Nat.lt_of_lt_of_le h2 s.grow, fun hi => ?_, h4⟩
    rcases s.img r hi with h4 | h4
    · omega
    · exact h3 h4⟩

/-- What a call comes to: a value. -/
def CallPost (P : Program) (B : Nat) (e : Emb) (h : H) (w : World) (v : V) (h' : H) : Value → World → Prop := fun u w' =>
  ∃ e', VR e' v u ∧ Stp (CC P) B e h w e' h' w'

def wideF (F : Fence) : Prop := (∀ f, F.fn f) ∧ F.depth = none ∧ F.alive = false

theorem fenced_all {P : Program} {F : Fence} (hF : wideF F) (m : Go.Machine) : m.fenced P F := by
  intro g _
  refine ⟨fun h => ?_, Or.inl (hF.1 _), fun _ _ => hF.1 _, fun d h => ?_⟩
  · rw [hF.2.2] at h; cases h
  · rw [hF.2.1] at h; cases h

theorem callsIn_of_calls {P : Program} {F : Fence} {n : Nat} {f : Nat} {args : Array Value} {w : World} {R : Go.Ending → World → Prop} (hF : wideF F) (h : Go.Calls P f args w R) : Go.CallsIn F n P f args w R := by
  refine ⟨hF.1 _, fun cs _ => ?_⟩
  obtain ⟨e, w', fr, r, s, x⟩ := h cs
  refine ⟨e, w', fr, r, ?_, x⟩
  have hs : ∀ {m m' : Go.Machine}, Go.Steps P m m' → Go.StepsIn (Go.Machine.fenced P F) P m m' := fun h => (Go.StepsIn.of_steps h).mono fun m _ => fenced_all hF m
  cases e with
  | returned v => exact hs s
  | panicked c => exact hs s
  | outgrown => exact s

/-- What a call has led to, and what that comes to. -/
def InvPost (F : Fence) (n : Nat) (P : Program) (Φ : Value → World → Prop) : Go.Result Go.Next → Prop
  | .ok (.value u) w' => Φ u w'
  | .ok .skip w' => Φ Go.undef w'
  | .ok (.enter f args) w' => Go.CallsIn F n P f args w' fun E w'' => ∃ u, E = .returned u ∧ Φ u w''
  | .ok (.round l f tmps assign body) w' => Go.RoundIn F n P l f tmps assign body w' fun E w'' => ∃ u, E = .returned u ∧ Φ u w''
  | _ => False

/-- That a runner of the machine is the model's. -/
def RunOk (P : Program) (R : RunT) : Prop := ∀ (c : Cal) (args : List V) (h : H) (v : V) (h' : H), R c args h = some (v, h') →
  ∀ (B : Nat) (e : Emb) (w : World) (cargs : Array Value) (F : Fence) (n : Nat), VRL e args cargs.toList → Sim (CC P) B e h w → wideF F →
    match c with
    | .fn f => InvPost F n P (CallPost P B e h w v h') ((Go.callFunc f cargs).run P w) ∧ (isYl args = true → ∀ w, (Go.callFunc f cargs).run P w = .ok (.enter f cargs) w)
    | .yl l => ∀ loc, e l = some loc → InvPost F n P (CallPost P B e h w v h') ((Go.Instr.yield loc.cb cargs).run P w)

def ExR : Ex → Go.Exit → Prop
  | .normal, .normal => True
  | .exit i, .exit j => i = j
  | .ret, .ret => True
  | _, _ => False

def Post (P : Program) (B nt N : Nat) (e : Emb) (h : H) (w : World) (x : Ex) (t' : Tm) (h' : H) : Go.Exit → Act → World → Prop := fun E a' w' =>
  ExR x E ∧ ∃ e' rs, TR e' nt t' a' ∧ Stp (CC P) B e h w e' h' w' ∧ DefOk N e' h' w' a'.defers rs

/-- The loop around. -/
def AroundR (e : Emb) (F : Fence) : Option Nat → Prop
  | none => F.round = none
  | some l => ∃ loc, e l = some loc ∧ F.round = some loc.cb
theorem AroundR.mono {F : Fence} {ar : Option Nat} (h : AroundR e F ar) (he : e.le e') : AroundR e' F ar := by
  cases ar with
  | none => exact h
  | some l => obtain ⟨loc, h1, h2⟩ := h; exact ⟨loc, he _ _ h1, h2⟩

theorem TR.put {t : Tm} {a : Act} {d : Option Nat} {v : V} {u : Value} (ht : TR e nt t a) (hd : dstOk nt d = true) (hv : VR e v u) : TR e nt (t.pd d v) (a.put d u) := by
  cases d with
  | none => exact ht
  | some d =>
    have hlt : d < nt := by simpa [dstOk] using hd
    refine ⟨by simp [Act.put, ht.size], fun n => ?_⟩
    simp only [Tm.pd, Tm.v_st, Act.put, Array.getD_eq_getD_getElem?, Array.getElem?_setIfInBounds]
    by_cases hn : n = d
    · subst hn
      rw [if_pos rfl, if_pos rfl, if_pos (by rw [ht.size]; exact hlt)]
      simpa using hv
    · rw [if_neg hn, if_neg (fun hh => hn hh.symm)]
      have := ht.get n
      simpa [Array.getD_eq_getD_getElem?] using this

theorem put_defers (a : Act) (d : Option Nat) (u : Value) : (a.put d u).defers = a.defers := by cases d <;> rfl

theorem wanted_sound {t : Tm} {a : Act} {ops : Array Oper} {o : Oper} {x : AOper} {k : Nat} (ht : TR e nt t a) (hx : compOper P nt ops k o = some x) : Go.Region.wanted o (Go.yielded ops a.tmps) = x.wanted t := by
  unfold compOper at hx
  split at hx
  · obtain ⟨op, _, hx⟩ := Option.bind_eq_some_iff.1 hx
    unfold Go.Region.wanted AOper.wanted
    split at hx
    · rename_i hg
      simp at hx; subst hx
      simp [hg]
    · rename_i j want hg
      obtain ⟨d, hd, hx⟩ := Option.bind_eq_some_iff.1 hx
      split at hx
      · rename_i hlt
        simp at hx; subst hx
        simp only [hg]
        have hget := ht.get d
        have hsz : d < a.tmps.size := by rw [ht.size]; exact hlt
        simp only [Go.yielded, hd, Option.bind_some]
        rw [Array.getD_eq_getD_getElem?] at hget
        rw [Array.getElem?_eq_getElem hsz] at hget ⊢
        simp only [Option.getD_some] at hget
        generalize a.tmps[d] = u at *
        generalize t.v d = x at *
        cases hget <;> simp
      · simp at hx
  · simp at hx

theorem compOper_parts {ops : Array Oper} {o : Oper} {x : AOper} {k : Nat} (hx : compOper P nt ops k o = some x) : dstOk nt o.dst = true ∧ x.dst = o.dst ∧ compAct P o = some x.op ∧ x.look = k := by
  unfold compOper at hx
  split at hx
  · rename_i hd
    obtain ⟨op, hop, hx⟩ := Option.bind_eq_some_iff.1 hx
    split at hx
    · simp at hx; subst hx; exact ⟨hd, rfl, hop, rfl⟩
    · obtain ⟨d, _, hx⟩ := Option.bind_eq_some_iff.1 hx
      split at hx
      · simp at hx; subst hx; exact ⟨hd, rfl, hop, rfl⟩
      · simp at hx
  · simp at hx

theorem compOp_noDefer {o : Oper} {x : AOp} (h : compOp P o = some x) : ∀ c, o.op ≠ .defer c := by
  intro c hc
  simp [compOp, hc] at h
theorem compAct_noDefer {o : Oper} {x : AAct} (h : compAct P o = some x) : ∀ c, o.op ≠ .defer c := by
  intro c hc
  unfold compAct at h
  split at h
  · rename_i y hy
    unfold compAct0 at hy
    simp only [callOf, invOf, hc] at hy
    obtain ⟨y, hy, _⟩ := Option.map_eq_some_iff.1 hy
    exact compOp_noDefer hy c hc
  · simp [isDefer, hc] at h

theorem compAct_cases {o : Oper} {x : AAct} (h : compAct P o = some x) : compAct0 P o = some x ∨ x = .op .bad := by
  unfold compAct at h
  split at h
  · rename_i hy; rw [hy, h]; exact .inl rfl
  · split at h
    · cases h
    · cases h; exact .inr rfl

theorem InvPost.mono {F : Fence} {n : Nat} {Φ Ψ : Value → World → Prop} {r : Go.Result Go.Next} (h : InvPost F n P Φ r) (hm : ∀ u w, Φ u w → Ψ u w) : InvPost F n P Ψ r := by
  unfold InvPost at *
  split <;> simp_all
  · exact Go.CallsIn.mono h fun E w'' ⟨u, h1, h2⟩ => ⟨u, h1, hm _ _ h2⟩
  · exact Go.RoundIn.mono h fun E w'' ⟨u, h1, h2⟩ => ⟨u, h1, hm _ _ h2⟩

/-- What an operation's turn asks of the rest. -/
theorem InvPost.upon {F : Fence} {n : Nat} {Φ : Value → World → Prop} {r : Go.Result Go.Next} {o : Oper} {a : Act} {K : Act → World → Prop} {Q : Go.Exit → Act → World → Prop} (hF : F.depth = none)
    (h : InvPost F (n - 1) P Φ r) (hk : ∀ u w', Φ u w' → K (a.put o.dst u) w') : o.uponIn F n P a K Q r := by
  unfold InvPost at h
  split at h
  · exact hk _ _ h
  · exact hk _ _ h
  · refine ⟨fun hd => absurd hd (by simp [hF]), Go.CallsIn.mono h ?_⟩
    rintro E w'' ⟨u, rfl, h2⟩
    exact hk _ _ h2
  · refine ⟨fun hd => absurd hd (by simp [hF]), Go.RoundIn.mono h ?_⟩
    rintro E w'' ⟨u, rfl, h2⟩
    exact hk _ _ h2
  · exact h.elim

theorem OpAny.inv {F : Fence} {n : Nat} {r : Go.Result Go.Next} {v : V} (h1 : OpAny (CC P) B e h w r v h') : InvPost F n P (CallPost P B e h w v h') r := by
  obtain ⟨u, w', e', hr, hv, hs⟩ := h1
  rcases hr with rfl | ⟨rfl, rfl⟩
  · exact ⟨e', hv, hs⟩
  · exact ⟨e', hv, hs⟩

theorem invTbl_at {name : String} : ∀ {is : List Nat} {ty f : Nat}, inTbl (invTbl P name is) ty = some f → invAt P name ty = some f
  | [], ty, f, h => by cases h
  | i :: is, ty, f, h => by
    unfold invTbl at h
    split at h
    · rename_i g hg
      unfold inTbl at h
      split at h
      · rename_i he; cases h; rw [← he]; exact hg
      · exact invTbl_at h
    · exact invTbl_at h
theorem invTbl_sound {name : String} {is : List Nat} {ty f : Nat} (h : inTbl (invTbl P name is) ty = some f) :
    ∃ el ti m, P.underlying ty = some (.pointer el) ∧ P.info? ty = some ti ∧ ti.methods.find? (·.name == name) = some m ∧ m.path = #[] ∧ m.func = some (f, true) := by
  have h := invTbl_at h
  unfold invAt at h
  split at h
  · rename_i el hd
    obtain ⟨ti, hti, h⟩ := Option.bind_eq_some_iff.1 h
    obtain ⟨m, hm, h⟩ := Option.bind_eq_some_iff.1 h
    split at h
    · rename_i hp
      split at h
      · rename_i g hg
        cases h
        exact ⟨el, ti, m, hd, hti, hm, by simpa using hp, hg⟩
      · cases h
    · cases h
  · cases h
theorem run_invMethod {name : String} {ty f : Nat} {el : TypeId} {ti : Go.TypeInfo} {m : Go.Method} {v : Value} {k : Nat} (hd : P.underlying ty = some (.pointer el)) (hti : P.info? ty = some ti) (hm : ti.methods.find? (·.name == name) = some m) (hp : m.path = #[]) (hf : m.func = some (f, true)) :
    (Go.method (k + Go.Made.depth) ty v name).run P w = .ok (f, v) w := by
  have hk : ∃ n, k + Go.Made.depth = n + 1 := ⟨k + Go.Made.depth - 1, by have : 0 < Go.Made.depth := by decide
                                                                         omega⟩
  obtain ⟨n, hn⟩ := hk
  rw [hn]
  simp only [Go.method, Go.Sem.run_bind, Go.typeInfo, Go.run_program, Go.Result.andThen_ok, hti, Go.Sem.run_pure, hm, hp, hf, Go.follow, Go.receiverAt, Go.run_underlying hd, Go.Place.get]
theorem act_sound {R : RunT} (hR : RunOk P R) {o : Oper} {x : AAct} (hx : compAct P o = some x) {t : Tm} {ρ : Operand → Value} {v : V} (s : Sim (CC P) B e h w) (hρ : OpdR e t ρ) (hev : evOp R x t h = some (v, h'))
    {F : Fence} (n : Nat) (hF : wideF F) : InvPost F n P (CallPost P B e h w v h') ((Go.execOp ρ o).run P w) := by
  rcases compAct_cases hx with hx | rfl
  rotate_left
  · simp [evOp, AOp.ev] at hev
  unfold compAct0 at hx
  split at hx
  · rename_i f as hc
    obtain ⟨g, hg, hx⟩ := Option.bind_eq_some_iff.1 hx
    obtain ⟨xs, hxs, rfl⟩ := Option.map_eq_some_iff.1 hx
    unfold callOf at hc
    split at hc
    · rename_i c ho
      split at hc
      · rename_i f' hcal
        simp at hc
        obtain ⟨rfl, rfl⟩ := hc
        simp only [evOp] at hev
        have hf := hρ _ _ hg
        have has := hρ.list hxs
        split at hev
        · rename_i cal caps hfe
          rw [hfe] at hf
          cases cal with
          | fn k =>
            generalize hu : ρ f' = u at hf
            cases hf with
            | fn _ _ ws hws =>
              have hall : VRL e (xs.map t.ev ++ caps) (#[] ++ c.args.map ρ ++ ws : Array Value).toList := by simpa using has.append hws
              have := (hR _ _ _ _ _ hev B e w _ F n hall s hF).1
              simpa [Go.execOp, ho, Go.resolve, hcal, hu, Go.Deferred.ofValue, Go.invoke] using this
          | yl l =>
            generalize hu : ρ f' = u at hf
            cases hf with
            | yl _ loc hl =>
              have hall : VRL e (xs.map t.ev ++ []) (#[] ++ c.args.map ρ : Array Value).toList := by simpa using has
              have := hR _ _ _ _ _ hev B e w _ F n hall s hF loc hl
              simpa [Go.execOp, ho, Go.resolve, hcal, hu, Go.Deferred.ofValue, Go.invoke] using this
        · simp at hev
      · simp at hc
    · simp at hc
  · split at hx
    · rename_i x name as hc
      obtain ⟨z, hz, hx⟩ := Option.bind_eq_some_iff.1 hx
      obtain ⟨xs, hxs, rfl⟩ := Option.map_eq_some_iff.1 hx
      unfold invOf at hc
      split at hc
      · rename_i c ho
        split at hc
        · rename_i x' name' hcal
          simp at hc
          obtain ⟨rfl, rfl, rfl⟩ := hc
          simp only [evOp] at hev
          have hf := hρ _ _ hz
          have has := hρ.list hxs
          split at hev
          · rename_i ty v0 hfe
            rw [hfe] at hf
            generalize hu : ρ x' = u at hf
            cases hf with
            | ifc _ _ w0 hw =>
              split at hev
              · rename_i f hin
                have hall : VRL e (v0 :: xs.map t.ev) (#[w0] ++ c.args.map ρ : Array Value).toList := by simpa using VRL.cons _ _ _ _ hw has
                have := (hR _ _ _ _ _ hev B e w _ F n hall s hF).1
                obtain ⟨el, ti, m, hd, hti, hm, hp, hmf⟩ := invTbl_sound hin
                have hmeth : (Go.method (P.types.size + Go.Made.depth) ty w0 name').run P w = .ok (f, w0) w := run_invMethod hd hti hm hp hmf
                have h0 : (#[Value.iface ty w0] ++ Array.map ρ c.args)[0]? = some (.iface ty w0) := by
                  rw [Array.getElem?_append_left (by simp)]; rfl
                have h1 : (#[Value.iface ty w0] ++ Array.map ρ c.args).extract 1 (#[Value.iface ty w0] ++ Array.map ρ c.args).size = Array.map ρ c.args := by simp
                simp only [Go.execOp, ho, Go.resolve, hcal, hu, Go.invoke, Go.Sem.run_bind, Go.Sem.run_pure, Go.Result.andThen_ok, h0, Go.callMethod, Go.run_program, hmeth, h1]
                exact this
              · simp at hev
          · simp at hev
        · simp at hc
      · simp at hc
    · obtain ⟨y, hy, rfl⟩ := Option.map_eq_some_iff.1 hx
      exact ((op_sound hy s hρ hev).any s).inv

theorem evOps_sound {R : RunT} (hR : RunOk P R) {ops : Array Oper} {F : Fence} {n N : Nat} (hF : wideF F) {Q : Go.Exit → Act → World → Prop} : ∀ {os : List Oper} {as : List AOper} {t t' : Tm} {h h' : H} {e : Emb} {w : World} {a : Act} {rs : List Nat},
    compOpers P nt ops os = some as → evOps R as t h = some (t', h') → Sim (CC P) B e h w → TR e nt t a → DefOk N e h w a.defers rs →
    (∀ e' a' w' rs', TR e' nt t' a' → Stp (CC P) B e h w e' h' w' → DefOk N e' h' w' a'.defers rs' → Q .normal a' w') → Go.wpListIn F n P ops Q os a w
  | [], as, t, t', h, h', e, w, a, rs, hc, hev, s, ht, hd, hq => by
    simp [compOpers] at hc; subst hc
    simp [evOps] at hev; obtain ⟨rfl, rfl⟩ := hev
    exact hq e a w rs ht (Stp.refl s) hd
  | o :: os, as, t, t', h, h', e, w, a, rs, hc, hev, s, ht, hd, hq => by
    unfold compOpers at hc
    obtain ⟨x, hx, hc⟩ := Option.bind_eq_some_iff.1 hc
    obtain ⟨xs, hxs, hc⟩ := Option.bind_eq_some_iff.1 hc
    cases hc
    obtain ⟨hdst, hxd, hact, _⟩ := compOper_parts hx
    unfold Go.wpListIn
    rw [wanted_sound ht hx]
    unfold evOps at hev
    by_cases hw : x.wanted t = true
    · rw [if_pos hw] at hev ⊢
      obtain ⟨⟨v, h1⟩, hev1, hev2⟩ := Option.bind_eq_some_iff.1 hev
      refine ⟨fun f _ => hF.1 f, ?_⟩
      rw [Go.Oper.semAt_eq _ _ _ (compAct_noDefer hact)]
      refine InvPost.upon hF.2.1 (act_sound hR hact s (fun _ _ => ht.opd s.gl glOf_at) hev1 (n - 1) hF) fun u w1 ⟨e1, hv, hs⟩ => ?_
      have ht1 : TR e1 nt (t.pd x.dst v) (a.put o.dst u) := by rw [hxd]; exact (ht.mono hs.le).put hdst hv
      refine evOps_sound hR hF hxs hev2 hs.sim ht1 (by rw [put_defers]; exact hd.step hs) fun e' a' w' rs' h1 h2 h3 => hq e' a' w' rs' h1 (hs.trans h2) h3
    · rw [if_neg hw] at hev ⊢
      refine ⟨fun f _ => hF.1 f, ?_⟩
      have ht1 : TR e nt (t.pd x.dst .un) (a.put o.dst Go.undef) := by rw [hxd]; exact ht.put hdst VR.un
      exact evOps_sound hR hF hxs hev s ht1 (by rw [put_defers]; exact hd) hq

end Am
