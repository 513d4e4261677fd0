/- The abstract machine, part 2: texts of the folder wip/am, one behind the other. -/
import Derived.Test.YtkhnielggkcbiaaGreatDoorAmAll1
import Derived.OrdersIn
import Derived.RangeFuncRecord
import Derived.RangeFuncNested
import Derived.TacticsIn
import Derived.LoopNIn
import Derived.Scope
import Derived.Below
import GoSem.ClaimChange
import GoSem.ClaimWide
import Derived.Carry
import Derived.Laws.Externs
/- AmOps7: the other builtins; every operation as one theorem. -/
namespace Am
set_option linter.unusedVariables false
set_option linter.unusedSimpArgs false
open Go (IntKind BinOp UnOp Value Program TypeId TypeDesc Operand Oper Code Tmp World Addr Obj Act)

variable {P : Program} {C : Cx} {B : Nat} {e e' : Emb} {h h' : H} {w w' : World} {t : Tm} {ρ : Operand → Value} {o : Oper} {v : V}

theorem wrap_id (n : Int) (h1 : 0 ≤ n) (h2 : n ≤ 140737488355328) : IntKind.i64.wrap n = n := by
  unfold Go.IntKind.wrap
  dsimp only [Go.IntKind.bits, Go.IntKind.signed]
  rw [Int.emod_eq_of_lt h1 (by omega)]
  have h3 : ¬ (n ≥ 2 ^ (64 - 1)) := by omega
  simp only [h3, decide_false, Bool.and_false, Bool.false_eq_true, if_false]

theorem zero_any {el : TypeId} {z : List V} (hz : zeroT P el = some z) : ∃ zv, (∀ w : World, (Go.zeroValue el).run P w = .ok zv w) ∧ ∀ e, VRL e z zv.cells.toList := by
  unfold zeroT at hz
  obtain ⟨v0, hv0, hx⟩ := Option.bind_eq_some_iff.1 hz
  obtain ⟨i, hi, hv0⟩ := Option.bind_eq_some_iff.1 hv0
  exact ⟨v0, fun w => by simp [Go.zeroValue, Go.typeInfo, hi, hv0], fun e => ofFlats_sound hx⟩

theorem zeroCells_list {z : List V} {zc : Array Value} (hz : VRL e z zc.toList) (hfl : z.all V.flat = true) (n : Nat) : VRR e z.length (List.replicate n z) (Go.Builtin.zeroCells zc n).toList := by
  have hs : zc.size = z.length := by have := hz.length; simp at this; omega
  have := zrow hz rfl hfl n (fun q => zc[q % zc.size]!) (fun q _ => by rw [hs])
  simp only [Go.Builtin.zeroCells, hs] at *
  simpa using this

theorem zero_bytes {z : List V} (hz : z = [.i .u8 0]) (n : Nat) : bytesOf (List.replicate n z).flatten = some (List.replicate n 0) := by
  subst hz
  induction n with
  | zero => rfl
  | succ n ih =>
    simp only [List.replicate_succ, List.flatten_cons, List.singleton_append, bytesOf, ih]
    rfl

/-! ### append of what make would make -/
theorem append0_unfold {ty u el : TypeId} {k bytes : Nat} {base : Option Addr} {sLen sCap : Nat} {m : Int} {ats : Array TypeId} {rt : TypeId} {ut : TypeDesc} (h0 : ats[0]? = some ty) (h1 : ats[1]? = some u) (hd : P.underlying ty = some (.slice el)) (hk : szOf P el = some k)
    (hu : P.underlying u = some ut) (hz : isI ut = true) (hby : bytesOfT P el = some bytes) (hm0 : 0 ≤ m) (hm : m ≤ 140737488355328) (hmb : m * bytes ≤ 140737488355328) :
    (Go.Builtin.append_ ats rt #[.slice base sLen sCap, .int .i64 m]).run P w =
      (appCore el k base sLen sCap m.toNat true (.int .i64 m) (if m.toNat * k = 0 then pure #[] else do pure (Go.Builtin.zeroCells (← Go.zeroValue el).cells m.toNat))).run P w := by
  obtain ⟨i, hi, hib⟩ : ∃ i, P.info? el = some i ∧ i.bytes = bytes := Option.map_eq_some_iff.1 hby
  unfold Go.Builtin.append_
  simp only [h0, h1, show (#[Value.slice base sLen sCap, .int .i64 m] : Array Value)[0]? = some (.slice base sLen sCap) from rfl, show (#[Value.slice base sLen sCap, .int .i64 m] : Array Value)[1]? = some (.int .i64 m) from rfl]
  rw [Go.Sem.run_bind, Go.run_underlying hd]
  dsimp only [Go.Result.andThen]
  rw [Go.Sem.run_bind, run_sz hk]
  dsimp only [Go.Result.andThen]
  rw [Go.Sem.run_bind, Go.run_underlying hu]
  dsimp only [Go.Result.andThen]
  rw [Go.Sem.run_bind, Go.Sem.run_pure]
  dsimp only [Go.Result.andThen]
  have key : ∀ z : Bool, z = true → (Go.Sem.run P (do
      let n ← if z then do
          let l := IntKind.i64.wrap (← Go.asInt (.int .i64 m))
          if l < 0 then Go.runtimePanic (.error "makeslice: len out of range")
          if l * (← Go.typeInfo el).bytes > 2 ^ 48 then
            let made ← Go.choose (.extern "append.ofMake.carriedOut" 2)
            Go.runtimePanic (.error (if made == 1 then "makeslice: len out of range" else "growslice: len out of range"))
          pure l.toNat
        else Go.Builtin.lenOf (.int .i64 m)
      appCore el k base sLen sCap n z (.int .i64 m) (if !z then Go.Builtin.firstCells k n (.int .i64 m) else if n * k = 0 then pure #[] else do pure (Go.Builtin.zeroCells (← Go.zeroValue el).cells n))) w) =
        (appCore el k base sLen sCap m.toNat true (.int .i64 m) (if m.toNat * k = 0 then pure #[] else do pure (Go.Builtin.zeroCells (← Go.zeroValue el).cells m.toNat))).run P w := by
    intro z hz
    subst hz
    have g1 : ¬ (m < 0) := by omega
    have g2 : ¬ (m * (bytes : Int) > 2 ^ 48) := by omega
    simp only [if_true, Go.Sem.run_bind, Go.asInt, Go.asIntOf, Go.Sem.run_pure, Go.Result.andThen_ok, wrap_id m hm0 hm, run_info hi, hib, g1, g2, if_false]
    rfl
  exact (show _ = _ from rfl).trans (key (isI ut) hz)

theorem op_app0 {c : Go.Call} {ty u el : TypeId} {ts : List TypeId} {S X : AOpd} {k bytes : Nat} {by_ : Bool} {z : List V} (ho : o.op = .call c) (hb : c.callee = .builtin .append) (s : Sim C B e h w) (hρ : OpdR e t ρ) (hts : c.argTypes.toList = ty :: u :: ts)
    (has : opds c.args.toList = some [S, X]) (hd : P.underlying ty = some (.slice el)) (hk : szOf P el = some k) (hby : bytesOfT P el = some bytes) (hzs : isIntT P u = some true) (hz : zeroT P el = some z) (hzk : z.length = k) (hk0 : k ≠ 0)
    (hb1 : by_ = true → z = [.i .u8 0]) (hev : (AOp.app0 by_ z bytes S X).ev t.ev h = some (v, h')) : OpRes .eff C B e h w ((Go.execOp ρ o).run P w) v h' := by
  simp only [AOp.ev] at hev
  obtain ⟨sx, xx, hargs, vs, vx⟩ := two_args hρ has
  have h0 := types0 hts
  have h1 := types1 hts
  obtain ⟨ut, hut, hum⟩ := isInt_desc hzs
  obtain ⟨zv, hzr, hzv⟩ := zero_any hz
  have hzsz : zv.cells.size = k := by have := (hzv e).length; simp at this; omega
  have fin : ∀ {r : Value} {w' : World}, (Go.Builtin.append_ c.argTypes o.type #[ρ sx, ρ xx]).run P w = .ok r w' → (Go.execOp ρ o).run P w = .ok (.value r) w' := fun hr => run_builtin ho hb hr fun xs => by
    rw [hargs]
    have : (#[sx, xx] : Array Operand).map ρ = #[ρ sx, ρ xx] := by simp
    rw [this]
    rfl
  split at hev
  · rename_i a len cap ex m hp hq
    rw [hp] at vs; rw [hq] at vx
    have hxm := vx.i_inv
    split at hev
    · rename_i hc
      obtain ⟨hm0, hbp, hmb, hzne, hflat⟩ := hc
      have hfl := zeroT_flat hz
      have hbytes : 0 < bytes → m ≤ 140737488355328 := by
        intro hpos
        have h1 : m * 1 ≤ m * (bytes : Int) := Int.mul_le_mul_of_nonneg_left (by omega) hm0
        omega
      have hrows : VRR e k (List.replicate m.toNat z) (Go.Builtin.zeroCells zv.cells m.toNat).toList := by
        have := zeroCells_list (hzv e) hfl m.toNat
        rw [hzk] at this; exact this
      have happ0 : ∀ w2 : World, w2.heap = w.heap → (if m.toNat * k = 0 then pure #[] else do pure (Go.Builtin.zeroCells (← Go.zeroValue el).cells m.toNat) : Go.Sem (Array Value)).run P w2 =
          .ok (Go.Builtin.zeroCells zv.cells m.toNat).toList.toArray w2 := by
        intro w2 _
        by_cases hn : m.toNat * k = 0
        · rw [if_pos hn]
          have : (Go.Builtin.zeroCells zv.cells m.toNat).toList = [] := by
            apply List.length_eq_zero_iff.1
            simp [zeroCells_size, hzsz, hn]
          rw [this]; rfl
        · rw [if_neg hn]
          simp [hzr w2]
      -- an append's own bound tells that an element has bytes, or nothing is appended
      split at hev
      · rename_i hbt
        split at hev
        · have hzb := hb1 hbt
          have hk1 : k = 1 := by rw [← hzk, hzb]; rfl
          have hcells := bytesOf_sound (zero_bytes hzb m.toNat) (flatten_rows hrows)
          obtain ⟨A, c0, r, w', e', hs, hrun, hvr, hst⟩ := appBytes_sound (P := P) (zeros := true) (x := .int .i64 m) s hev vs hby hzr (by rw [hzsz, hk1]) (fun w2 hw2 => by rw [happ0 w2 hw2, hcells])
          refine ⟨r, w', e', .inl (fin ?_), hvr, hst⟩
          rw [hs, hxm, append0_unfold h0 h1 hd hk hut hum hby hm0 (hbytes hbp) hmb]
          simp only [List.length_replicate] at hrun
          rw [← hk1] at hrun
          exact hrun
        · simp at hev
      · rw [hzk] at hev
        obtain ⟨A, c0, r, w', e', hs, hrun, hvr, hst⟩ := appRows_sound (P := P) (zeros := true) (x := .int .i64 m) s hev vs hrows (by omega) hby hzr hzsz happ0
        refine ⟨r, w', e', .inl (fin ?_), hvr, hst⟩
        rw [hs, hxm, append0_unfold h0 h1 hd hk hut hum hby hm0 (hbytes hbp) hmb]
        simp only [List.length_replicate] at hrun
        exact hrun
    · simp at hev
  · simp at hev

/-! ### copy, clear -/
theorem op_copy {c : Go.Call} {ty el : TypeId} {ts : List TypeId} {D S : AOpd} {k : Nat} {by_ : Bool} (ho : o.op = .call c) (hb : c.callee = .builtin .copy) (s : Sim C B e h w) (hρ : OpdR e t ρ) (hts : c.argTypes.toList = ty :: ts)
    (has : opds c.args.toList = some [D, S]) (hd : P.underlying ty = some (.slice el)) (hk : szOf P el = some k) (hb1 : by_ = true → k = 1) (hev : (AOp.copy by_ k D S).ev t.ev h = some (v, h')) : OpRes .eff C B e h w ((Go.execOp ρ o).run P w) v h' := by
  simp only [AOp.ev] at hev
  obtain ⟨dx, sx, hargs, vd, vs⟩ := two_args hρ has
  have h0 := types0 hts
  have fin : ∀ {r : Value} {w' : World}, (Go.Builtin.copy_ c.argTypes o.type #[ρ dx, ρ sx]).run P w = .ok r w' → (Go.execOp ρ o).run P w = .ok (.value r) w' := fun hr => run_builtin ho hb hr fun xs => by
    rw [hargs]
    have : (#[dx, sx] : Array Operand).map ρ = #[ρ dx, ρ sx] := by simp
    rw [this]
    rfl
  -- what the model does
  have core : ∀ {A : Option Addr} {len cp n m : Nat} {us : List Value} {w' : World}, ρ dx = .slice A len cp → (Go.Builtin.lenOf (ρ sx)).run P w = .ok n w → m = Nat.min n len → (Go.Builtin.firstCells k m (ρ sx)).run P w = .ok us.toArray w →
      (match A with | some a => (Go.storeCells (a.add (0 * k)) us).run P w | none => .ok () w) = .ok () w' → (Go.execOp ρ o).run P w = .ok (.value (.int .i64 (m : Nat))) w' := by
    intro A len cp n m us w' hA hn hm hc hst
    refine fin ?_
    subst hm
    unfold Go.Builtin.copy_
    simp only [h0, hA, show (#[Value.slice A len cp, ρ sx] : Array Value)[0]? = some (Value.slice A len cp) from rfl, show (#[Value.slice A len cp, ρ sx] : Array Value)[1]? = some (ρ sx) from rfl, Go.Sem.run_bind, Go.run_underlying hd, Go.Result.andThen_ok, hn, run_sz hk, hc]
    cases A with
    | none => simp only at hst; cases hst; simp [Go.goInt]
    | some a =>
      simp only [Nat.zero_mul] at hst
      have ha : a.add 0 = a := by simp [Addr.add]
      rw [ha] at hst
      simp [hst, Go.goInt]
  split at hev
  · rename_i a len cp ex a' n cp' ex' hp hq
    rw [hp] at vd; rw [hq] at vs
    have hmin : Nat.min n len ≤ n := Nat.min_le_left _ _
    have hmin2 : Nat.min n len ≤ len := Nat.min_le_right _ _
    have hlc : len ≤ cp := by
      generalize ρ dx = u at vd
      cases vd with
      | sl0 => omega
      | sl => assumption
    split at hev
    · rename_i hbt
      have hk1 := hb1 hbt
      obtain ⟨bs, hbs, hev⟩ := Option.bind_eq_some_iff.1 hev
      obtain ⟨h2, hput, hev⟩ := Option.bind_eq_some_iff.1 hev
      cases hev
      obtain ⟨hbl, A', c', hx, hlies⟩ := bseg_sound s hbs vs hmin
      obtain ⟨A, c0, w', hA, hst, hstp⟩ := bput_sound (P := P) s hput vd (by omega)
      refine ⟨.int .i64 (Nat.min n len : Nat), w', e, .inl (core (us := bcells bs) hA (n := n) (by rw [hx]; rfl) rfl ?_ ?_), .i _ _, hstp⟩
      · rw [hx, hk1]; exact first_bytes _ hbl hlies
      · rw [hk1]; cases A <;> simpa using hst
    · obtain ⟨rs, hrs, hev⟩ := Option.bind_eq_some_iff.1 hev
      obtain ⟨h2, hput, hev⟩ := Option.bind_eq_some_iff.1 hev
      cases hev
      obtain ⟨hrl, us, A', c', hus, hx, hlies⟩ := rseg_sound s hrs vs hmin
      obtain ⟨A, c0, w', hA, hst, hstp⟩ := rput_sound (P := P) s hput vd hus (by omega)
      refine ⟨.int .i64 (Nat.min n len : Nat), w', e, .inl (core (us := us) hA (n := n) (by rw [hx]; rfl) rfl ?_ (by cases A <;> exact hst)), .i _ _, hstp⟩
      rw [hx]; exact first_rows _ (by rw [hus.len, hrl]) hlies
  · rename_i a len cp ex l hp hq
    rw [hp] at vd; rw [hq] at vs
    have hlc : len ≤ cp := by
      generalize ρ dx = u at vd
      cases vd with
      | sl0 => omega
      | sl => assumption
    split at hev
    · rename_i hbt
      have hk1 := hb1 hbt
      obtain ⟨h2, hput, hev⟩ := Option.bind_eq_some_iff.1 hev
      cases hev
      obtain ⟨b', hb', hl⟩ := vs.s_inv
      have hsz : b'.size = l.length := by rw [← hl]; exact Array.length_toList.symm
      have hmin2 : Nat.min l.length len ≤ len := Nat.min_le_right _ _
      obtain ⟨A, c0, w', hA, hst, hstp⟩ := bput_sound (P := P) s hput vd (by simp; omega)
      refine ⟨.int .i64 (Nat.min l.length len : Nat), w', e, .inl (core (us := bcells (l.take (Nat.min l.length len))) hA (n := l.length) (by rw [hb']; simp [Go.Builtin.lenOf, hsz]) rfl ?_ ?_), .i _ _, hstp⟩
      · rw [hb']
        simp only [Go.Builtin.firstCells, Go.Sem.run_pure]
        congr 1
        apply Array.toList_inj.1
        rw [← hl]
        simp [bcells, ByteArray.data_extract, List.map_take]
      · rw [hk1]; cases A <;> simpa using hst
    · simp at hev
  · simp at hev

theorem op_clear {c : Go.Call} {ty el : TypeId} {ts : List TypeId} {X : AOpd} {by_ : Bool} {z : List V} (ho : o.op = .call c) (hb : c.callee = .builtin .clear) (s : Sim C B e h w) (hρ : OpdR e t ρ) (hts : c.argTypes.toList = ty :: ts)
    (has : opds c.args.toList = some [X]) (hd : P.underlying ty = some (.slice el)) (hz : zeroT P el = some z) (hb1 : by_ = true → z = [.i .u8 0]) (hev : (AOp.clearS by_ z X).ev t.ev h = some (v, h')) : OpRes .eff C B e h w ((Go.execOp ρ o).run P w) v h' := by
  simp only [AOp.ev] at hev
  obtain ⟨X', xs, hX, vx, hxs⟩ := first_arg hρ has
  have h0 := types0 hts
  have h1 := args0 (ρ := ρ) hX
  obtain ⟨zv, hzr, hzv⟩ := zero_any hz
  have hfl := zeroT_flat hz
  split at hev
  · rename_i a n cp ex hp
    rw [hp] at vx
    split at hev
    · simp at hev
    · have core : ∀ {A : Option Addr} {c0 : Nat} {w' : World}, ρ X' = .slice A n c0 → (A = none → n = 0) → (match A with | some a => (Go.storeCells a (Go.Builtin.zeroCells zv.cells n).toList).run P w | none => .ok () w) = .ok () w' →
          (Go.execOp ρ o).run P w = .ok (.value (.tuple #[])) w' := by
        intro A c0 w' hA hA0 hst
        refine run_builtin ho hb (s := Go.Builtin.clear_ c.argTypes o.type (c.args.map ρ)) ?_ fun _ => rfl
        unfold Go.Builtin.clear_
        simp only [h0, h1, hA, Go.Sem.run_bind, Go.run_underlying hd, Go.Result.andThen_ok]
        cases A with
        | none => simp only at hst; cases hst; simp
        | some a =>
          simp only at hst
          cases n with
          | zero =>
            have : (Go.Builtin.zeroCells zv.cells 0).toList = [] := by simp [Go.Builtin.zeroCells]
            rw [this] at hst
            cases hst
            simp
          | succ n => simp [hzr, hst]
      have hA0 : ∀ {A : Option Addr} {c0 : Nat}, ρ X' = .slice A n c0 → A = none → n = 0 := by
        intro A c0 hA hAn
        rw [hA, hAn] at vx
        cases vx; rfl
      have hnc : n ≤ cp := by
        generalize ρ X' = u at vx
        cases vx with
        | sl0 => omega
        | sl => assumption
      have hrows := zeroCells_list (hzv e) hfl n
      split at hev
      · rename_i hbt
        split at hev
        · have hzb := hb1 hbt
          obtain ⟨h2, hput, hev⟩ := Option.bind_eq_some_iff.1 hev
          cases hev
          have hcells := bytesOf_sound (zero_bytes hzb n) (flatten_rows hrows)
          obtain ⟨A, c0, w', hA, hst, hstp⟩ := bput_sound (P := P) s hput vx (by simp; omega)
          refine ⟨_, w', e, .inl (core hA (hA0 hA) ?_), VR.un, hstp⟩
          rw [hcells]
          cases A with
          | none => simpa using hst
          | some ad =>
            have ha : ad.add 0 = ad := by simp [Addr.add]
            simp only [ha] at hst
            exact hst
        · simp at hev
      · obtain ⟨h2, hput, hev⟩ := Option.bind_eq_some_iff.1 hev
        cases hev
        obtain ⟨A, c0, w', hA, hst, hstp⟩ := rput_sound (P := P) s hput vx hrows (by simp; omega)
        refine ⟨_, w', e, .inl (core hA (hA0 hA) ?_), VR.un, hstp⟩
        cases A with
        | none => simpa using hst
        | some ad =>
          have ha : ad.add (0 * z.length) = ad := by simp [Addr.add]
          simp only [ha] at hst
          exact hst
  · simp at hev

/-! ### min, max -/
theorem minV_sound {f : Int → Int → Int} {g : Value → Value → Go.Sem Value} (hg : ∀ k x y, g (.int k x) (.int k y) = pure (.int k (f x y))) : ∀ {xs : List V} {x : V} {u : Value} {us : List Value}, VR e x u → VRL e xs us → minV f x xs = some v → ∃ r, (us.foldlM g u).run P w = .ok r w ∧ VR e v r
  | [], x, u, us, hx, hxs, h => by
    simp [minV] at h; subst h
    cases hxs
    exact ⟨u, rfl, hx⟩
  | y :: ys, x, u, us, hx, hxs, h => by
    cases hxs with
    | cons _ uy _ uys hy hys =>
      cases x with
      | i k a =>
        cases y with
        | i k' b =>
          have hx2 := hx.i_inv
          have hy2 := hy.i_inv
          unfold minV at h
          split at h
          · rename_i hk
            subst hk
            subst hx2 hy2
            obtain ⟨r, hr, hv⟩ := minV_sound hg (.i k (f a b)) hys h
            exact ⟨r, by simp only [List.foldlM_cons, hg, pure_bind]; exact hr, hv⟩
          · simp at h
        | _ => simp [minV] at h
      | _ => simp [minV] at h

theorem op_min {c : Go.Call} {x : AOpd} {xs : List AOpd} (ho : o.op = .call c) (hb : c.callee = .builtin .min) (s : Sim C B e h w) (hρ : OpdR e t ρ) (has : opds c.args.toList = some (x :: xs)) (hev : (AOp.min x xs).ev t.ev h = some (v, h')) : OpRes .pure C B e h w ((Go.execOp ρ o).run P w) v h' := by
  simp only [AOp.ev] at hev
  obtain ⟨y, hy, hev⟩ := Option.bind_eq_some_iff.1 hev
  cases hev
  obtain ⟨X, us, hX, vx, hxs⟩ := first_arg hρ has
  obtain ⟨r, hr, hv⟩ := minV_sound (P := P) (w := w) (g := Go.Builtin.min2) (fun k a b => rfl) vx hxs hy
  refine OpRes.pure s (u := r) (run_builtin ho hb (s := Go.Builtin.min_ c.argTypes o.type (c.args.map ρ)) ?_ fun _ => rfl) hv
  simp only [Go.Builtin.min_, Array.toList_map, hX, List.map_cons]
  exact hr
theorem op_max {c : Go.Call} {x : AOpd} {xs : List AOpd} (ho : o.op = .call c) (hb : c.callee = .builtin .max) (s : Sim C B e h w) (hρ : OpdR e t ρ) (has : opds c.args.toList = some (x :: xs)) (hev : (AOp.max x xs).ev t.ev h = some (v, h')) : OpRes .pure C B e h w ((Go.execOp ρ o).run P w) v h' := by
  simp only [AOp.ev] at hev
  obtain ⟨y, hy, hev⟩ := Option.bind_eq_some_iff.1 hev
  cases hev
  obtain ⟨X, us, hX, vx, hxs⟩ := first_arg hρ has
  obtain ⟨r, hr, hv⟩ := minV_sound (P := P) (w := w) (g := Go.Builtin.max2) (fun k a b => rfl) vx hxs hy
  refine OpRes.pure s (u := r) (run_builtin ho hb (s := Go.Builtin.max_ c.argTypes o.type (c.args.map ρ)) ?_ fun _ => rfl) hv
  simp only [Go.Builtin.max_, Array.toList_map, hX, List.map_cons]
  exact hr

end Am

/- AmOps8: every operation as one theorem. -/
namespace Am
set_option linter.unusedVariables false
set_option linter.unusedSimpArgs false
open Go (IntKind BinOp UnOp Value Program TypeId TypeDesc Operand Oper Code Tmp World Addr Obj Act)

variable {P : Program} {C : Cx} {B : Nat} {e e' : Emb} {h h' : H} {w w' : World} {t : Tm} {ρ : Operand → Value} {o : Oper} {v : V}

theorem bytes_z {by_ : Bool} {z : List V} (h : ¬ (by_ = true ∧ V.beqs z [.i .u8 0] = false)) : by_ = true → z = [.i .u8 0] := fun hb => by
  cases hz : V.beqs z [.i .u8 0] with
  | true => exact V.beqs_eq _ _ hz
  | false => exact absurd ⟨hb, hz⟩ h

theorem builtin_sound {ao : AOp} {c : Go.Call} {b : Go.Builtin} {as : List AOpd} (ho : o.op = .call c) (hb : c.callee = .builtin b) (has : opds c.args.toList = some as) (hc : compBuiltin P b c.argTypes.toList as = some ao)
    (s : Sim C B e h w) (hρ : OpdR e t ρ) (hev : ao.ev t.ev h = some (v, h')) : OpRes ao.kind C B e h w ((Go.execOp ρ o).run P w) v h' := by
  unfold compBuiltin at hc
  split at hc
  · rename_i ty ts x rest hts
    subst_vars
    split at hc
    · rename_i hd
      simp at hc; subst hc
      exact op_len (k := .str) ho hb s hρ ‹_› has hd hev
    · rename_i el hd
      simp at hc; subst hc
      exact op_len (k := .sl) ho hb s hρ ‹_› has ⟨el, hd⟩ hev
    · rename_i a b hd
      simp at hc; subst hc
      exact op_len (k := .map) ho hb s hρ ‹_› has ⟨a, b, hd⟩ hev
    · simp at hc
  · split at hc
    · rename_i el hd
      simp at hc; subst hc
      exact op_cap ho hb s hρ ‹_› has hd hev
    · simp at hc
  · split at hc
    · rename_i el hd
      obtain ⟨k, hk, hc⟩ := Option.bind_eq_some_iff.1 hc
      obtain ⟨bytes, hby, hc⟩ := Option.bind_eq_some_iff.1 hc
      obtain ⟨by_, hbt, hc⟩ := Option.bind_eq_some_iff.1 hc
      obtain ⟨zs, hzs, hc⟩ := Option.bind_eq_some_iff.1 hc
      obtain ⟨z, hz, hc⟩ := Option.bind_eq_some_iff.1 hc
      split at hc
      · simp at hc
      · rename_i hcond
        simp only [not_or] at hcond
        obtain ⟨hzk, hk0, hb1⟩ := hcond
        have hzk : z.length = k := by simpa using hzk
        cases zs with
        | true =>
          simp at hc; subst hc
          exact op_app0 ho hb s hρ ‹_› has hd hk hby hzs hz hzk hk0 (bytes_z hb1) hev
        | false =>
          simp at hc; subst hc
          exact op_app ho hb s hρ ‹_› has hd hk hby hbt hzs hz hzk hk0 (bytes_z hb1) hev
    · simp at hc
  · split at hc
    · rename_i el hd
      obtain ⟨k, hk, hc⟩ := Option.bind_eq_some_iff.1 hc
      obtain ⟨by_, hbt, hc⟩ := Option.bind_eq_some_iff.1 hc
      split at hc
      · simp at hc
      · rename_i hcond
        simp at hc; subst hc
        exact op_copy ho hb s hρ ‹_› has hd hk (fun hh => by by_cases h1 : k = 1; exact h1; exact absurd ⟨hh, h1⟩ hcond) hev
    · simp at hc
  · split at hc
    · rename_i el hd
      obtain ⟨by_, hbt, hc⟩ := Option.bind_eq_some_iff.1 hc
      obtain ⟨z, hz, hc⟩ := Option.bind_eq_some_iff.1 hc
      split at hc
      · simp at hc
      · rename_i hcond
        simp at hc; subst hc
        exact op_clear ho hb s hρ ‹_› has hd hz (bytes_z hcond) hev
    · simp at hc
  · simp at hc; subst hc
    exact op_min ho hb s hρ has hev
  · simp at hc; subst hc
    exact op_max ho hb s hρ has hev
  · simp at hc

theorem op_sound {ao : AOp} (hc : compOp P o = some ao) (s : Sim C B e h w) (hρ : OpdR e t ρ) (hev : ao.ev t.ev h = some (v, h')) : OpRes ao.kind C B e h w ((Go.execOp ρ o).run P w) v h' := by
  unfold compOp at hc
  split at hc
  · rename_i x ho
    obtain ⟨y, hy, rfl⟩ := Option.map_eq_some_iff.1 hc
    simp only [AOp.ev] at hev; simp at hev; obtain ⟨rfl, rfl⟩ := hev
    exact op_move (.inl ho) s hρ hy
  · rename_i x ho
    obtain ⟨y, hy, rfl⟩ := Option.map_eq_some_iff.1 hc
    simp only [AOp.ev] at hev; simp at hev; obtain ⟨rfl, rfl⟩ := hev
    exact op_move (.inr ho) s hρ hy
  · rename_i c a b ho
    obtain ⟨c', hc', hc⟩ := Option.bind_eq_some_iff.1 hc
    obtain ⟨a', ha', hc⟩ := Option.bind_eq_some_iff.1 hc
    obtain ⟨b', hb', hc⟩ := Option.bind_eq_some_iff.1 hc
    cases hc
    exact op_pick ho s hρ hc' ha' hb' hev
  · rename_i ty ho
    obtain ⟨z, hz, rfl⟩ := Option.map_eq_some_iff.1 hc
    exact op_alloc ho s hz hev
  · rename_i ty x ho
    obtain ⟨k, hk, hc⟩ := Option.bind_eq_some_iff.1 hc
    obtain ⟨y, hy, rfl⟩ := Option.map_eq_some_iff.1 hc
    exact op_box ho s hρ hy hev
  · rename_i ty ps ho
    split at hc
    · rename_i fs hd
      obtain ⟨z, hz, hc⟩ := Option.bind_eq_some_iff.1 hc
      obtain ⟨qs, hq, hc⟩ := Option.bind_eq_some_iff.1 hc
      split at hc
      · rename_i hall
        simp at hc; subst hc
        exact op_buildS ho s hρ hd hz hq hall hev
      · simp at hc
    · rename_i len el hd
      obtain ⟨z, hz, hc⟩ := Option.bind_eq_some_iff.1 hc
      obtain ⟨k, hk, hc⟩ := Option.bind_eq_some_iff.1 hc
      obtain ⟨qs, hq, rfl⟩ := Option.map_eq_some_iff.1 hc
      exact op_buildA ho s hρ hd hz hk hq hev
    · simp at hc
  · rename_i ty len ps ho
    split at hc
    · rename_i el hd
      obtain ⟨k, hk, hc⟩ := Option.bind_eq_some_iff.1 hc
      obtain ⟨z, hz, hc⟩ := Option.bind_eq_some_iff.1 hc
      obtain ⟨by_, hbt, hc⟩ := Option.bind_eq_some_iff.1 hc
      obtain ⟨qs, hq, hc⟩ := Option.bind_eq_some_iff.1 hc
      split at hc
      · rename_i hcond
        simp at hc; subst hc
        exact op_mkSl ho s hρ hd hk hz hq hcond.1 hcond.2 hev
      · simp at hc
    · simp at hc
  · rename_i ty x ho
    obtain ⟨n, hn, hc⟩ := Option.bind_eq_some_iff.1 hc
    obtain ⟨g, hg, hc⟩ := Option.bind_eq_some_iff.1 hc
    obtain ⟨y, hy, hc⟩ := Option.bind_eq_some_iff.1 hc
    split at hc
    · rename_i hgn
      simp at hc; subst hc
      exact op_load ho s hρ hy hn hg hgn hev
    · simp at hc
  · rename_i ty x y ho
    obtain ⟨n, hn, hc⟩ := Option.bind_eq_some_iff.1 hc
    obtain ⟨x', hx', hc⟩ := Option.bind_eq_some_iff.1 hc
    obtain ⟨y', hy', rfl⟩ := Option.map_eq_some_iff.1 hc
    exact op_store ho s hρ hx' hy' hn hev
  · rename_i x ho
    obtain ⟨y, hy, rfl⟩ := Option.map_eq_some_iff.1 hc
    exact op_nilCheck ho s hρ hy hev
  · rename_i op ty x y yt ho
    obtain ⟨x', hx', hc⟩ := Option.bind_eq_some_iff.1 hc
    obtain ⟨y', hy', hc⟩ := Option.bind_eq_some_iff.1 hc
    have eqc : (op = .eql ∨ op = .neq) → (match P.underlying ty with
        | some (.int _) | some .string => some (AOp.bin op x' y')
        | some d => (eqKind d).bind fun k => some (.eq (op == .neq) k x' y')
        | none => none) = some ao → OpRes ao.kind C B e h w ((Go.execOp ρ o).run P w) v h' := by
      intro hop hc
      split at hc
      · simp at hc; subst hc; exact op_bin ho s hρ hx' hy' hev
      · simp at hc; subst hc; exact op_bin ho s hρ hx' hy' hev
      · rename_i d _ _ hd
        obtain ⟨k, hk, hc⟩ := Option.bind_eq_some_iff.1 hc
        cases hc
        exact op_eq ho hop s hρ hx' hy' hd hk hev
      · simp at hc
    unfold compBin at hc
    split at hc
    · exact eqc (.inl rfl) hc
    · exact eqc (.inr rfl) hc
    · simp at hc; subst hc; exact op_bin ho s hρ hx' hy' hev
  · rename_i op ty x ho
    obtain ⟨y, hy, rfl⟩ := Option.map_eq_some_iff.1 hc
    exact op_un ho s hρ hy hev
  · rename_i a b x ho
    obtain ⟨y, hy, hc⟩ := Option.bind_eq_some_iff.1 hc
    unfold compConv at hc
    split at hc
    · simp at hc; subst hc; exact op_convI ho s hρ hy ‹_› ‹_› hev
    · simp at hc; subst hc; exact op_convSS ho s hρ hy ‹_› ‹_› hev
    · simp at hc; subst hc; exact op_convRS ho s hρ hy ‹_› ‹_› hev
    · split at hc
      · simp at hc; subst hc; exact op_convSB ho s hρ hy ‹_› ‹_› (by simpa using ‹(_ : Option Bool) = some true›) hev
      · simp at hc
    · split at hc
      · simp at hc; subst hc; exact op_convBS ho s hρ hy ‹_› ‹_› (by simpa using ‹(_ : Option Bool) = some true›) hev
      · simp at hc
    · split at hc
      · rename_i hcond
        simp at hc; subst hc; exact op_convBB ho s hρ hy hcond.1 ‹_› ‹_› hcond.2 hev
      · simp at hc
    · simp at hc
  · rename_i ty x ho
    split at hc
    · simp at hc
    · rename_i d hne hd
      obtain ⟨y, hy, rfl⟩ := Option.map_eq_some_iff.1 hc
      exact op_mkI ho s hρ hy hd (fun ms hh => hne ms (by rw [← hh]; try exact hd; try rfl)) hev
    · simp at hc
  · rename_i f first caps ho
    split at hc
    · rename_i hf
      obtain ⟨cs, hcs, rfl⟩ := Option.map_eq_some_iff.1 hc
      exact op_mkF ho s hρ hf hcs hev
    · simp at hc
  · rename_i ty ho
    simp at hc; subst hc
    exact op_mkM ho s hev
  · rename_i ty l c ho
    split at hc
    · rename_i el hd
      obtain ⟨z, hz, hc⟩ := Option.bind_eq_some_iff.1 hc
      obtain ⟨k, hk, hc⟩ := Option.bind_eq_some_iff.1 hc
      obtain ⟨by_, hbt, hc⟩ := Option.bind_eq_some_iff.1 hc
      obtain ⟨bytes, hby, hc⟩ := Option.bind_eq_some_iff.1 hc
      obtain ⟨l', hl', hc⟩ := Option.bind_eq_some_iff.1 hc
      obtain ⟨c', hc', hc⟩ := Option.bind_eq_some_iff.1 hc
      split at hc
      · rename_i hcond
        simp at hc; subst hc
        exact op_mkS ho s hρ hl' hc' hd hz hk hby hcond.1 hcond.2 hev
      · simp at hc
    · simp at hc
  · rename_i ty x lo hi mx ho
    obtain ⟨x', hx', hc⟩ := Option.bind_eq_some_iff.1 hc
    obtain ⟨lo', hlo, hc⟩ := Option.bind_eq_some_iff.1 hc
    obtain ⟨hi', hhi, hc⟩ := Option.bind_eq_some_iff.1 hc
    obtain ⟨mx', hmx, hc⟩ := Option.bind_eq_some_iff.1 hc
    split at hc
    · rename_i hd
      split at hc
      · rename_i hm
        simp at hc; subst hc
        have : mx = none := by
          cases mx with
          | none => rfl
          | some m =>
            simp only [opdO] at hmx
            obtain ⟨m', _, rfl⟩ := Option.map_eq_some_iff.1 hmx
            simp at hm
        subst this
        exact op_sliceS ho s hρ hx' hd hlo hhi hev
      · simp at hc
    · rename_i el hd
      obtain ⟨k, hk, hc⟩ := Option.bind_eq_some_iff.1 hc
      split at hc
      · simp at hc
      · rename_i hcond
        simp at hc; subst hc
        refine op_sliceL ho s hρ hx' hd hk hlo hhi hmx (fun hm => ?_) hev
        cases hi' with
        | none => exact absurd ⟨hm, rfl⟩ hcond
        | some _ => rfl
    · simp at hc
  · rename_i ty x i ho
    split at hc
    · rename_i fs hd
      obtain ⟨f, hf, hc⟩ := Option.bind_eq_some_iff.1 hc
      obtain ⟨n, hn, hc⟩ := Option.bind_eq_some_iff.1 hc
      split at hc
      · simp at hc
      · rename_i h0
        obtain ⟨y, hy, rfl⟩ := Option.map_eq_some_iff.1 hc
        exact op_fa ho s hρ hy hd hf hn h0 hev
    · simp at hc
  · rename_i ty x i ho
    split at hc
    · rename_i fs hd
      obtain ⟨f, hf, hc⟩ := Option.bind_eq_some_iff.1 hc
      obtain ⟨n, hn, hc⟩ := Option.bind_eq_some_iff.1 hc
      obtain ⟨g, hg, hc⟩ := Option.bind_eq_some_iff.1 hc
      split at hc
      · rename_i hgn
        obtain ⟨y, hy, rfl⟩ := Option.map_eq_some_iff.1 hc
        exact op_fld ho s hρ hy hd hf hn hg hgn hev
      · simp at hc
    · simp at hc
  · rename_i ty x i ho
    obtain ⟨x', hx', hc⟩ := Option.bind_eq_some_iff.1 hc
    obtain ⟨i', hi', hc⟩ := Option.bind_eq_some_iff.1 hc
    split at hc
    · rename_i el hd
      obtain ⟨k, hk, hc⟩ := Option.bind_eq_some_iff.1 hc
      cases hc
      exact op_ia ho s hρ hx' hi' hd hk hev
    · rename_i len el hd
      obtain ⟨k, hk, hc⟩ := Option.bind_eq_some_iff.1 hc
      cases hc
      exact op_iaA ho s hρ hx' hi' hd hk hev
    · simp at hc
  · rename_i ty x i ho
    obtain ⟨x', hx', hc⟩ := Option.bind_eq_some_iff.1 hc
    obtain ⟨i', hi', hc⟩ := Option.bind_eq_some_iff.1 hc
    split at hc
    · rename_i hd
      simp at hc; subst hc
      exact op_ixS ho s hρ hx' hi' hd hev
    · rename_i len el hd
      obtain ⟨k, hk, hc⟩ := Option.bind_eq_some_iff.1 hc
      obtain ⟨g, hg, hc⟩ := Option.bind_eq_some_iff.1 hc
      split at hc
      · rename_i hgn
        simp at hc; subst hc
        exact op_ixA ho s hρ hx' hi' hd hk hg hgn hev
      · simp at hc
    · simp at hc
  · rename_i ty x i ok ho
    obtain ⟨x', hx', hc⟩ := Option.bind_eq_some_iff.1 hc
    obtain ⟨i', hi', hc⟩ := Option.bind_eq_some_iff.1 hc
    split at hc
    · rename_i kt et hd
      obtain ⟨kk, hkk, hc⟩ := Option.bind_eq_some_iff.1 hc
      obtain ⟨z, hz, hc⟩ := Option.bind_eq_some_iff.1 hc
      cases hc
      exact op_lk ho s hρ hx' hi' hd hkk hz hev
    · simp at hc
  · rename_i ty m k x ho
    obtain ⟨m', hm', hc⟩ := Option.bind_eq_some_iff.1 hc
    obtain ⟨k', hk', hc⟩ := Option.bind_eq_some_iff.1 hc
    obtain ⟨x', hx', hc⟩ := Option.bind_eq_some_iff.1 hc
    split at hc
    · rename_i kt et hd
      obtain ⟨kk, hkk, hc⟩ := Option.bind_eq_some_iff.1 hc
      cases hc
      exact op_mu (.inl ho) s hρ hm' hk' hx' hd hkk hev
    · simp at hc
  · rename_i ty m k x ho
    obtain ⟨m', hm', hc⟩ := Option.bind_eq_some_iff.1 hc
    obtain ⟨k', hk', hc⟩ := Option.bind_eq_some_iff.1 hc
    obtain ⟨x', hx', hc⟩ := Option.bind_eq_some_iff.1 hc
    split at hc
    · rename_i kt et hd
      obtain ⟨kk, hkk, hc⟩ := Option.bind_eq_some_iff.1 hc
      cases hc
      exact op_mu (.inr ho) s hρ hm' hk' hx' hd hkk hev
    · simp at hc
  · rename_i ty x ho
    obtain ⟨x', hx', hc⟩ := Option.bind_eq_some_iff.1 hc
    split at hc
    · rename_i hd
      simp at hc; subst hc
      exact op_rngS ho s hρ hx' hd hev
    · simp at hc
  · rename_i x ho
    obtain ⟨y, hy, rfl⟩ := Option.map_eq_some_iff.1 hc
    exact op_nextS ho s hρ hy hev
  · rename_i x i ho
    obtain ⟨y, hy, rfl⟩ := Option.map_eq_some_iff.1 hc
    exact op_ext ho s hρ hy hev
  · rename_i c ho
    split at hc
    · simp at hc
    · rename_i b hb
      obtain ⟨as, has, hc⟩ := Option.bind_eq_some_iff.1 hc
      exact builtin_sound ho hb has hc s hρ hev
    · simp at hc
  · simp at hc

end Am

/- AmComp2: code, from the model's to the abstract machine's. -/
namespace Am
set_option linter.unusedVariables false
set_option linter.unusedSimpArgs false
open Go (IntKind BinOp UnOp Value Program TypeId TypeDesc Operand Oper Code Tmp)

def dstOk (nt : Nat) : Option Nat → Bool
  | some d => decide (d < nt)
  | none => true

/-- A call of a value: what is called, and with what. -/
def callOf (o : Oper) : Option (Operand × Array Operand) :=
  match o.op with
  | .call c => match c.callee with
    | .value f => some (f, c.args)
    | _ => none
  | _ => none
/-- A call of a method, by what lies in an interface: only where what lies in it is a pointer, and the method is its own. -/
def invOf (o : Oper) : Option (Operand × String × Array Operand) :=
  match o.op with
  | .call c => match c.callee with
    | .invoke x name => some (x, name, c.args)
    | _ => none
  | _ => none
def invAt (P : Program) (name : String) (i : Nat) : Option Nat :=
  match P.underlying i with
  | some (.pointer _) => (P.info? i).bind fun ti => (ti.methods.find? (·.name == name)).bind fun m => if m.path.isEmpty then match m.func with
    | some (f, true) => some f
    | _ => none
    else none
  | _ => none
def invTbl (P : Program) (name : String) : List Nat → List (Nat × Nat)
  | [] => []
  | i :: is => match invAt P name i with
    | some f => (i, f) :: invTbl P name is
    | none => invTbl P name is
def compAct0 (P : Program) (o : Oper) : Option AAct :=
  match callOf o with
  | some (f, as) => (opd f).bind fun f => (opds as.toList).map (.call f)
  | none => match invOf o with
    | some (x, name, as) => (opd x).bind fun x => (opds as.toList).map (.inv (invTbl P name (List.range P.types.size)) x)
    | none => (compOp P o).map .op
def isDefer (o : Oper) : Bool :=
  match o.op with
  | .defer _ => true
  | .select _ _ => true
  | _ => false
/-- What is not taken may stand where it is not reached. -/
def compAct (P : Program) (o : Oper) : Option AAct :=
  match compAct0 P o with
  | some x => some x
  | none => if isDefer o then none else some (.op .bad)

def compOper (P : Program) (nt : Nat) (ops : Array Oper) (look : Nat) (o : Oper) : Option AOper :=
  if dstOk nt o.dst then
    (compAct P o).bind fun op => match o.guard with
      | none => some { dst := o.dst, op := op, guard := none, look := look }
      | some (j, want) => ((ops[j]?).bind (·.dst)).bind fun d => if d < nt then some { dst := o.dst, op := op, guard := some (d, want), look := look } else none
  else none

def compOpers (P : Program) (nt : Nat) (ops : Array Oper) : List Oper → Option (List AOper)
  | [] => some []
  | o :: os => (compOper P nt ops 0 o).bind fun a => (compOpers P nt ops os).bind fun as => some (a :: as)

/-! ### Regions that draw their order -/
/-- The operations that must come ahead of one, directly or through others; as bits. -/
def bits (acc : List Nat) : List Go.Edge → Nat
  | [] => 0
  | e :: es => if Go.Region.binds .any e then (2 ^ e.on ||| acc.getD e.on 0) ||| bits acc es else bits acc es
def bef : List Oper → List Nat → List Nat
  | [], acc => acc
  | o :: os, acc => bef os (acc ++ [bits acc o.after.toList])
def befores (ops : Array Oper) : List Nat := bef ops.toList []
def isEff (P : Program) (o : Oper) : Bool :=
  match compAct P o with
  | some op => op.kind == .eff
  | none => true
/-- All that must come ahead of number e and is not yet there, and e. -/
def upTo (bs : List Nat) (n e : Nat) (done : List Nat) : List Nat :=
  done ++ ((List.range n).filter fun i => (bs.getD e 0).testBit i && !done.contains i) ++ [e]
/-- One order: the effects as they stand, ahead of each no more than it needs; the rest behind. -/
def canon (bs : List Nat) (n : Nat) (effs : List Nat) : List Nat :=
  let done := effs.foldl (fun done e => upTo bs n e done) []
  done ++ (List.range n).filter fun i => !done.contains i
/-- How many of the effects ahead need not come ahead of i. -/
def looks (bs : List Nat) (effs ahead : List Nat) (i : Nat) : Nat := (effs.filter fun e => ahead.contains e && !(bs.getD i 0).testBit e).length

def compD (P : Program) (nt : Nat) (ops : Array Oper) (bs effs : List Nat) : List Nat → List Nat → Option (List (Nat × AOper))
  | _, [] => some []
  | ahead, i :: is => (ops[i]?).bind fun o => (compOper P nt ops (looks bs effs ahead i) o).bind fun a => (compD P nt ops bs effs (ahead ++ [i]) is).bind fun as => some ((i, a) :: as)

/-- The temporaries that an operation looks at. -/
def AOpd.tmp : AOpd → List Nat
  | .t n => [n]
  | _ => []
def optT : Option AOpd → List Nat
  | some x => x.tmp
  | none => []
def AOp.tmps : AOp → List Nat
  | .mv x | .box _ x | .load _ _ x | .nilCheck x | .un _ x | .convI _ x | .convSS x | .convSB x | .convBS x | .convBB x | .convRS x | .mkI _ x | .fa _ x | .fld _ _ _ x | .rngS x | .nextS x | .ext x _ | .lenV _ x | .capV x | .clearS _ _ x => x.tmp
  | .store _ x y | .bin _ x y | .eq _ _ x y | .mkS _ _ _ x y | .ia _ x y | .iaA _ _ x y | .ixS x y | .ixA _ _ _ x y | .lk _ _ _ x y | .app _ _ _ x y | .app0 _ _ _ x y | .copy _ _ x y => x.tmp ++ y.tmp
  | .pick x y z | .mu _ x y z => x.tmp ++ y.tmp ++ z.tmp
  | .alloc _ | .mkM | .bad => []
  | .build _ ps => ps.flatMap fun p => p.2.2.tmp
  | .mkSl _ _ _ ps => ps.flatMap fun p => p.2.tmp
  | .mkF _ xs => xs.flatMap AOpd.tmp
  | .sliceS x a b => x.tmp ++ optT a ++ optT b
  | .sliceL _ x a b c => x.tmp ++ optT a ++ optT b ++ optT c
  | .min x xs | .max x xs => x.tmp ++ xs.flatMap AOpd.tmp
def AAct.tmps : AAct → List Nat
  | .op x => x.tmps
  | .call f xs => f.tmp ++ xs.flatMap AOpd.tmp
  | .inv _ x xs => x.tmp ++ xs.flatMap AOpd.tmp

def looksOf (ops : Array Oper) (o : Oper) (x : AOper) : List Nat := o.looksAt ops ++ x.op.tmps ++ (match x.guard with
  | some g => [g.1]
  | none => [])
def dstIn (d : Option Nat) (l : List Nat) : Bool :=
  match d with
  | some d => l.contains d
  | none => false
def apartD (ops : Array Oper) (o o' : Oper) (x x' : AOper) : Bool :=
  !dstIn x.dst (looksOf ops o' x') && !dstIn x'.dst (looksOf ops o x) && (x.dst.isNone || x.dst != x'.dst)

/-- What the proof asks of the order: ahead of each all that must be · an effect only behind all that is ahead of it · two that touch one temporary are ordered · a look reaches back to an effect that must be ahead. 'ahead', 'effs': the last one first. -/
def chk (ops : Array Oper) (bs : List Nat) : List (Nat × AOper) → List Nat → List (Nat × AOper) → Bool
  | _, _, [] => true
  | ahead, effs, (i, x) :: rest =>
    let b := bs.getD i 0
    (match ops[i]? with
    | some o => !(ahead.map (·.1)).contains i && decide (b < 2 ^ ops.size) &&
      ((List.range ops.size).all fun j => !b.testBit j || (ahead.map (·.1)).contains j) &&
      (ahead.all fun q => b.testBit q.1 || (x.op.kind != .eff && (match ops[q.1]? with
        | some o' => apartD ops o' o q.2 x
        | none => false))) &&
      (match effs[x.look]? with
        | some e => b.testBit e
        | none => true)
    | none => false) &&
    chk ops bs ((i, x) :: ahead) (if x.op.kind == .eff then i :: effs else effs) rest

def compRegD (P : Program) (nt : Nat) (ops : Array Oper) : Option (List AOper) :=
  let bs := befores ops
  let effs := (List.range ops.size).filter fun i => match ops[i]? with
    | some o => isEff P o
    | none => true
  (compD P nt ops bs effs [] (canon bs ops.size effs)).bind fun l => if (List.range ops.size).all (fun j => (l.map (·.1)).contains j) && chk ops bs [] [] l then some (l.map (·.2)) else none

def compC (P : Program) (nt : Nat) : Code → Option ACode
  | .skip => some .skip
  | .label _ => some .skip
  | .region _ ops draw => if draw then (if P.follows .mixedOrders then (compRegD P nt ops).map .regionD else none) else (compOpers P nt ops ops.toList).map .region
  | .seq a b => (compC P nt a).bind fun x => (compC P nt b).bind fun y => some (.seq x y)
  | .cond c a b => (opd c).bind fun z => (compC P nt a).bind fun x => (compC P nt b).bind fun y => some (.cond z x y)
  | .block id c => (compC P nt c).map (.block id)
  | .loop c => (compC P nt c).map .loop
  | .rangeFunc f ps assign body => if ps.all (fun p => p < nt) then (opd f).bind fun z => (compC P nt assign).bind fun x => (compC P nt body).bind fun y => some (.rfn z ps.toList x y) else none
  | .exit id => some (.exit id)
  | .ret => some .ret
  | .scope c => compC P nt c
  | .goto _ => some .bad
  | .refuse _ => some .bad

def compRes (P : Program) : List Go.ResultVar → Option (List ARes)
  | [] => some []
  | .tmp t :: rs => (compRes P rs).map (.tmp t :: ·)
  | .cell a t :: rs => (szOf P t).bind fun n => (aggT P t).bind fun g => if g = true ∨ n = 1 then (compRes P rs).map (.cell a n g :: ·) else none

def compF (P : Program) (f : Go.Func) : Option AFunc :=
  f.body.bind fun c => (compC P f.ntmps c).bind fun ac => (compRes P f.results.toList).bind fun rs =>
    if f.name == "runtime.NumGoroutine" then none else some { ntmps := f.ntmps, results := rs, code := ac }

end Am

/- AmSound: what the abstract machine's code does, the model's code does. -/
namespace Am
set_option linter.unusedVariables false
set_option linter.unusedSimpArgs false
open Go (IntKind BinOp UnOp Value Program TypeId TypeDesc Operand Oper Code Tmp World Addr Obj Act Fence)

/-- The code of a loop's record. -/
def glOf (P : Program) (g : Nat) : Option Loc := if g < 4096 then some ⟨g, 0, ((P.globals[g]?).bind fun x => szOf P x.type).getD 1, 1⟩ else none
def CC (P : Program) : Cx := ⟨fun nt c a => compC P nt c = some a, glOf P⟩

theorem glOf_at {P : Program} : ∀ g, g < 4096 → ∃ l, glOf P g = some l ∧ l.cb = g ∧ l.sh = 0 := fun g h => ⟨_, by unfold glOf; rw [if_pos h], rfl, rfl⟩

variable {P : Program} {B : Nat} {e e' : Emb} {h h' : H} {w w' : World} {nt : Nat}

/-- The marks among the deferred calls: one for each outermost range over a function. -/
structure DefOk (N : Nat) (e : Emb) (h : H) (w : World) (ds : List Go.Deferred) (rs : List Nat) : Prop where
  eq : ds = rs.map fun r => { target := .collected r, args := #[] }
  nd : rs.Nodup
  at_ : ∀ r ∈ rs, w.heap[r]? = some (.deferred (some [])) ∧ r < w.heap.size ∧ ¬ Img e h r ∧ N ≤ r

theorem Owns.img {c : Nat} (h1 : Owns e h c) : Img e h c := let ⟨b, x, l, a, _, c1, d⟩ := h1; ⟨b, x, l, a, c1, d⟩

theorem DefOk.step {N : Nat} {ds : List Go.Deferred} {rs : List Nat} {C : Cx} (hd : DefOk N e h w ds rs) (s : Stp C B e h w e' h' w') : DefOk N e' h' w' ds rs :=
  ⟨hd.eq, hd.nd, fun r hr => by
    obtain ⟨h1, h2, h3, h4⟩ := hd.at_ r hr
    refine ⟨by rw [s.keep r h2 (fun o => h3 o.img)]; exact h1, Nat.lt_of_lt_of_le h2 s.grow, fun hi => ?_, h4⟩
    rcases s.img r hi with h4 | h4
    · omega
    · exact h3 h4⟩

/-- What a call comes to: a value. -/
def CallPost (P : Program) (B : Nat) (e : Emb) (h : H) (w : World) (v : V) (h' : H) : Value → World → Prop := fun u w' =>
  ∃ e', VR e' v u ∧ Stp (CC P) B e h w e' h' w'

def wideF (F : Fence) : Prop := (∀ f, F.fn f) ∧ F.depth = none ∧ F.alive = false

/-- What a call has led to, and what that comes to. -/
def InvPost (F : Fence) (n : Nat) (P : Program) (Φ : Value → World → Prop) : Go.Result Go.Next → Prop
  | .ok (.value u) w' => Φ u w'
  | .ok .skip w' => Φ Go.undef w'
  | .ok (.enter f args) w' => Go.CallsIn F n P f args w' fun E w'' => ∃ u, E = .returned u ∧ Φ u w''
  | .ok (.round l f tmps assign body) w' => Go.RoundIn F n P l f tmps assign body w' fun E w'' => ∃ u, E = .returned u ∧ Φ u w''
  | _ => False

/-- That a runner of the machine is the model's. -/
def RunOk (P : Program) (R : RunT) : Prop := ∀ (c : Cal) (args : List V) (h : H) (v : V) (h' : H), R c args h = some (v, h') →
  ∀ (B : Nat) (e : Emb) (w : World) (cargs : Array Value) (F : Fence) (n : Nat), VRL e args cargs.toList → Sim (CC P) B e h w → wideF F →
    match c with
    | .fn f => InvPost F n P (CallPost P B e h w v h') ((Go.callFunc f cargs).run P w) ∧ (isYl args = true → ∀ w, (Go.callFunc f cargs).run P w = .ok (.enter f cargs) w)
    | .yl l => ∀ loc, e l = some loc → InvPost F n P (CallPost P B e h w v h') ((Go.Instr.yield loc.cb cargs).run P w)

def ExR : Ex → Go.Exit → Prop
  | .normal, .normal => True
  | .exit i, .exit j => i = j
  | .ret, .ret => True
  | _, _ => False

def Post (P : Program) (B nt N : Nat) (e : Emb) (h : H) (w : World) (x : Ex) (t' : Tm) (h' : H) : Go.Exit → Act → World → Prop := fun E a' w' =>
  ExR x E ∧ ∃ e' rs, TR e' nt t' a' ∧ Stp (CC P) B e h w e' h' w' ∧ DefOk N e' h' w' a'.defers rs

/-- The loop around. -/
def AroundR (e : Emb) (F : Fence) : Option Nat → Prop
  | none => F.round = none
  | some l => ∃ loc, e l = some loc ∧ F.round = some loc.cb
theorem AroundR.mono {F : Fence} {ar : Option Nat} (h : AroundR e F ar) (he : e.le e') : AroundR e' F ar := by
  cases ar with
  | none => exact h
  | some l => obtain ⟨loc, h1, h2⟩ := h; exact ⟨loc, he _ _ h1, h2⟩

theorem TR.put {t : Tm} {a : Act} {d : Option Nat} {v : V} {u : Value} (ht : TR e nt t a) (hd : dstOk nt d = true) (hv : VR e v u) : TR e nt (t.pd d v) (a.put d u) := by
  cases d with
  | none => exact ht
  | some d =>
    have hlt : d < nt := by simpa [dstOk] using hd
    refine ⟨by simp [Act.put, ht.size], fun n => ?_⟩
    simp only [Tm.pd, Tm.v_st, Act.put, Array.getD_eq_getD_getElem?, Array.getElem?_setIfInBounds]
    by_cases hn : n = d
    · subst hn
      rw [if_pos rfl, if_pos rfl, if_pos (by rw [ht.size]; exact hlt)]
      simpa using hv
    · rw [if_neg hn, if_neg (fun hh => hn hh.symm)]
      have := ht.get n
      simpa [Array.getD_eq_getD_getElem?] using this

theorem put_defers (a : Act) (d : Option Nat) (u : Value) : (a.put d u).defers = a.defers := by cases d <;> rfl

theorem wanted_sound {t : Tm} {a : Act} {ops : Array Oper} {o : Oper} {x : AOper} {k : Nat} (ht : TR e nt t a) (hx : compOper P nt ops k o = some x) : Go.Region.wanted o (Go.yielded ops a.tmps) = x.wanted t := by
  unfold compOper at hx
  split at hx
  · obtain ⟨op, _, hx⟩ := Option.bind_eq_some_iff.1 hx
    unfold Go.Region.wanted AOper.wanted
    split at hx
    · rename_i hg
      simp at hx; subst hx
      simp [hg]
    · rename_i j want hg
      obtain ⟨d, hd, hx⟩ := Option.bind_eq_some_iff.1 hx
      split at hx
      · rename_i hlt
        simp at hx; subst hx
        simp only [hg]
        have hget := ht.get d
        have hsz : d < a.tmps.size := by rw [ht.size]; exact hlt
        simp only [Go.yielded, hd, Option.bind_some]
        rw [Array.getD_eq_getD_getElem?] at hget
        rw [Array.getElem?_eq_getElem hsz] at hget ⊢
        simp only [Option.getD_some] at hget
        generalize a.tmps[d] = u at *
        generalize t.v d = x at *
        cases hget <;> simp
      · simp at hx
  · simp at hx

theorem compOper_parts {ops : Array Oper} {o : Oper} {x : AOper} {k : Nat} (hx : compOper P nt ops k o = some x) : dstOk nt o.dst = true ∧ x.dst = o.dst ∧ compAct P o = some x.op ∧ x.look = k := by
  unfold compOper at hx
  split at hx
  · rename_i hd
    obtain ⟨op, hop, hx⟩ := Option.bind_eq_some_iff.1 hx
    split at hx
    · simp at hx; subst hx; exact ⟨hd, rfl, hop, rfl⟩
    · obtain ⟨d, _, hx⟩ := Option.bind_eq_some_iff.1 hx
      split at hx
      · simp at hx; subst hx; exact ⟨hd, rfl, hop, rfl⟩
      · simp at hx
  · simp at hx

theorem compOp_noDefer {o : Oper} {x : AOp} (h : compOp P o = some x) : ∀ c, o.op ≠ .defer c := by
  intro c hc
  simp [compOp, hc] at h
theorem compAct_noDefer {o : Oper} {x : AAct} (h : compAct P o = some x) : ∀ c, o.op ≠ .defer c := by
  intro c hc
  unfold compAct at h
  split at h
  · rename_i y hy
    unfold compAct0 at hy
    simp only [callOf, invOf, hc] at hy
    obtain ⟨y, hy, _⟩ := Option.map_eq_some_iff.1 hy
    exact compOp_noDefer hy c hc
  · simp [isDefer, hc] at h

theorem compAct_cases {o : Oper} {x : AAct} (h : compAct P o = some x) : compAct0 P o = some x ∨ x = .op .bad := by
  unfold compAct at h
  split at h
  · rename_i hy; rw [hy, h]; exact .inl rfl
  · split at h
    · cases h
    · cases h; exact .inr rfl

theorem InvPost.mono {F : Fence} {n : Nat} {Φ Ψ : Value → World → Prop} {r : Go.Result Go.Next} (h : InvPost F n P Φ r) (hm : ∀ u w, Φ u w → Ψ u w) : InvPost F n P Ψ r := by
  unfold InvPost at *
  split <;> simp_all
  · exact Go.CallsIn.mono h fun E w'' ⟨u, h1, h2⟩ => ⟨u, h1, hm _ _ h2⟩
  · exact Go.RoundIn.mono h fun E w'' ⟨u, h1, h2⟩ => ⟨u, h1, hm _ _ h2⟩

/-- What an operation's turn asks of the rest. -/
theorem InvPost.upon {F : Fence} {n : Nat} {Φ : Value → World → Prop} {r : Go.Result Go.Next} {o : Oper} {a : Act} {K : Act → World → Prop} {Q : Go.Exit → Act → World → Prop} (hF : F.depth = none)
    (h : InvPost F (n - 1) P Φ r) (hk : ∀ u w', Φ u w' → K (a.put o.dst u) w') : o.uponIn F n P a K Q r := by
  unfold InvPost at h
  split at h
  · exact hk _ _ h
  · exact hk _ _ h
  · refine ⟨fun hd => absurd hd (by simp [hF]), Go.CallsIn.mono h ?_⟩
    rintro E w'' ⟨u, rfl, h2⟩
    exact hk _ _ h2
  · refine ⟨fun hd => absurd hd (by simp [hF]), Go.RoundIn.mono h ?_⟩
    rintro E w'' ⟨u, rfl, h2⟩
    exact hk _ _ h2
  · exact h.elim

theorem OpAny.inv {F : Fence} {n : Nat} {r : Go.Result Go.Next} {v : V} (h1 : OpAny (CC P) B e h w r v h') : InvPost F n P (CallPost P B e h w v h') r := by
  obtain ⟨u, w', e', hr, hv, hs⟩ := h1
  rcases hr with rfl | ⟨rfl, rfl⟩
  · exact ⟨e', hv, hs⟩
  · exact ⟨e', hv, hs⟩

theorem invTbl_at {name : String} : ∀ {is : List Nat} {ty f : Nat}, inTbl (invTbl P name is) ty = some f → invAt P name ty = some f
  | [], ty, f, h => by cases h
  | i :: is, ty, f, h => by
    unfold invTbl at h
    split at h
    · rename_i g hg
      unfold inTbl at h
      split at h
      · rename_i he; cases h; rw [← he]; exact hg
      · exact invTbl_at h
    · exact invTbl_at h
theorem invTbl_sound {name : String} {is : List Nat} {ty f : Nat} (h : inTbl (invTbl P name is) ty = some f) :
    ∃ el ti m, P.underlying ty = some (.pointer el) ∧ P.info? ty = some ti ∧ ti.methods.find? (·.name == name) = some m ∧ m.path = #[] ∧ m.func = some (f, true) := by
  have h := invTbl_at h
  unfold invAt at h
  split at h
  · rename_i el hd
    obtain ⟨ti, hti, h⟩ := Option.bind_eq_some_iff.1 h
    obtain ⟨m, hm, h⟩ := Option.bind_eq_some_iff.1 h
    split at h
    · rename_i hp
      split at h
      · rename_i g hg
        cases h
        exact ⟨el, ti, m, hd, hti, hm, by simpa using hp, hg⟩
      · cases h
    · cases h
  · cases h
theorem run_invMethod {name : String} {ty f : Nat} {el : TypeId} {ti : Go.TypeInfo} {m : Go.Method} {v : Value} {k : Nat} (hd : P.underlying ty = some (.pointer el)) (hti : P.info? ty = some ti) (hm : ti.methods.find? (·.name == name) = some m) (hp : m.path = #[]) (hf : m.func = some (f, true)) :
    (Go.method (k + Go.Made.depth) ty v name).run P w = .ok (f, v) w := by
  have hk : ∃ n, k + Go.Made.depth = n + 1 := ⟨k + Go.Made.depth - 1, by have : 0 < Go.Made.depth := by decide
                                                                         omega⟩
  obtain ⟨n, hn⟩ := hk
  rw [hn]
  simp only [Go.method, Go.Sem.run_bind, Go.typeInfo, Go.run_program, Go.Result.andThen_ok, hti, Go.Sem.run_pure, hm, hp, hf, Go.follow, Go.receiverAt, Go.run_underlying hd, Go.Place.get]
theorem act_sound {R : RunT} (hR : RunOk P R) {o : Oper} {x : AAct} (hx : compAct P o = some x) {t : Tm} {ρ : Operand → Value} {v : V} (s : Sim (CC P) B e h w) (hρ : OpdR e t ρ) (hev : evOp R x t h = some (v, h'))
    {F : Fence} (n : Nat) (hF : wideF F) : InvPost F n P (CallPost P B e h w v h') ((Go.execOp ρ o).run P w) := by
  rcases compAct_cases hx with hx | rfl
  rotate_left
  · simp [evOp, AOp.ev] at hev
  unfold compAct0 at hx
  split at hx
  · rename_i f as hc
    obtain ⟨g, hg, hx⟩ := Option.bind_eq_some_iff.1 hx
    obtain ⟨xs, hxs, rfl⟩ := Option.map_eq_some_iff.1 hx
    unfold callOf at hc
    split at hc
    · rename_i c ho
      split at hc
      · rename_i f' hcal
        simp at hc
        obtain ⟨rfl, rfl⟩ := hc
        simp only [evOp] at hev
        have hf := hρ _ _ hg
        have has := hρ.list hxs
        split at hev
        · rename_i cal caps hfe
          rw [hfe] at hf
          cases cal with
          | fn k =>
            generalize hu : ρ f' = u at hf
            cases hf with
            | fn _ _ ws hws =>
              have hall : VRL e (xs.map t.ev ++ caps) (#[] ++ c.args.map ρ ++ ws : Array Value).toList := by simpa using has.append hws
              have := (hR _ _ _ _ _ hev B e w _ F n hall s hF).1
              simpa [Go.execOp, ho, Go.resolve, hcal, hu, Go.Deferred.ofValue, Go.invoke] using this
          | yl l =>
            generalize hu : ρ f' = u at hf
            cases hf with
            | yl _ loc hl =>
              have hall : VRL e (xs.map t.ev ++ []) (#[] ++ c.args.map ρ : Array Value).toList := by simpa using has
              have := hR _ _ _ _ _ hev B e w _ F n hall s hF loc hl
              simpa [Go.execOp, ho, Go.resolve, hcal, hu, Go.Deferred.ofValue, Go.invoke] using this
        · simp at hev
      · simp at hc
    · simp at hc
  · split at hx
    · rename_i x name as hc
      obtain ⟨z, hz, hx⟩ := Option.bind_eq_some_iff.1 hx
      obtain ⟨xs, hxs, rfl⟩ := Option.map_eq_some_iff.1 hx
      unfold invOf at hc
      split at hc
      · rename_i c ho
        split at hc
        · rename_i x' name' hcal
          simp at hc
          obtain ⟨rfl, rfl, rfl⟩ := hc
          simp only [evOp] at hev
          have hf := hρ _ _ hz
          have has := hρ.list hxs
          split at hev
          · rename_i ty v0 hfe
            rw [hfe] at hf
            generalize hu : ρ x' = u at hf
            cases hf with
            | ifc _ _ w0 hw =>
              split at hev
              · rename_i f hin
                have hall : VRL e (v0 :: xs.map t.ev) (#[w0] ++ c.args.map ρ : Array Value).toList := by simpa using VRL.cons _ _ _ _ hw has
                have := (hR _ _ _ _ _ hev B e w _ F n hall s hF).1
                obtain ⟨el, ti, m, hd, hti, hm, hp, hmf⟩ := invTbl_sound hin
                have hmeth : (Go.method (P.types.size + Go.Made.depth) ty w0 name').run P w = .ok (f, w0) w := run_invMethod hd hti hm hp hmf
                have h0 : (#[Value.iface ty w0] ++ Array.map ρ c.args)[0]? = some (.iface ty w0) := by
                  rw [Array.getElem?_append_left (by simp)]; rfl
                have h1 : (#[Value.iface ty w0] ++ Array.map ρ c.args).extract 1 (#[Value.iface ty w0] ++ Array.map ρ c.args).size = Array.map ρ c.args := by simp
                simp only [Go.execOp, ho, Go.resolve, hcal, hu, Go.invoke, Go.Sem.run_bind, Go.Sem.run_pure, Go.Result.andThen_ok, h0, Go.callMethod, Go.run_program, hmeth, h1]
                exact this
              · simp at hev
          · simp at hev
        · simp at hc
      · simp at hc
    · obtain ⟨y, hy, rfl⟩ := Option.map_eq_some_iff.1 hx
      exact ((op_sound hy s hρ hev).any s).inv

theorem evOps_sound {R : RunT} (hR : RunOk P R) {ops : Array Oper} {F : Fence} {n N : Nat} (hF : wideF F) {Q : Go.Exit → Act → World → Prop} : ∀ {os : List Oper} {as : List AOper} {t t' : Tm} {h h' : H} {e : Emb} {w : World} {a : Act} {rs : List Nat},
    compOpers P nt ops os = some as → evOps R as t h = some (t', h') → Sim (CC P) B e h w → TR e nt t a → DefOk N e h w a.defers rs →
    (∀ e' a' w' rs', TR e' nt t' a' → Stp (CC P) B e h w e' h' w' → DefOk N e' h' w' a'.defers rs' → Q .normal a' w') → Go.wpListIn F n P ops Q os a w
  | [], as, t, t', h, h', e, w, a, rs, hc, hev, s, ht, hd, hq => by
    simp [compOpers] at hc; subst hc
    simp [evOps] at hev; obtain ⟨rfl, rfl⟩ := hev
    exact hq e a w rs ht (Stp.refl s) hd
  | o :: os, as, t, t', h, h', e, w, a, rs, hc, hev, s, ht, hd, hq => by
    unfold compOpers at hc
    obtain ⟨x, hx, hc⟩ := Option.bind_eq_some_iff.1 hc
    obtain ⟨xs, hxs, hc⟩ := Option.bind_eq_some_iff.1 hc
    cases hc
    obtain ⟨hdst, hxd, hact, _⟩ := compOper_parts hx
    unfold Go.wpListIn
    rw [wanted_sound ht hx]
    unfold evOps at hev
    by_cases hw : x.wanted t = true
    · rw [if_pos hw] at hev ⊢
      obtain ⟨⟨v, h1⟩, hev1, hev2⟩ := Option.bind_eq_some_iff.1 hev
      refine ⟨fun f _ => hF.1 f, ?_⟩
      rw [Go.Oper.semAt_eq _ _ _ (compAct_noDefer hact)]
      refine InvPost.upon hF.2.1 (act_sound hR hact s (fun _ _ => ht.opd s.gl glOf_at) hev1 (n - 1) hF) fun u w1 ⟨e1, hv, hs⟩ => ?_
      have ht1 : TR e1 nt (t.pd x.dst v) (a.put o.dst u) := by rw [hxd]; exact (ht.mono hs.le).put hdst hv
      refine evOps_sound hR hF hxs hev2 hs.sim ht1 (by rw [put_defers]; exact hd.step hs) fun e' a' w' rs' h1 h2 h3 => hq e' a' w' rs' h1 (hs.trans h2) h3
    · rw [if_neg hw] at hev ⊢
      refine ⟨fun f _ => hF.1 f, ?_⟩
      have ht1 : TR e nt (t.pd x.dst .un) (a.put o.dst Go.undef) := by rw [hxd]; exact ht.put hdst VR.un
      exact evOps_sound hR hF hxs hev s ht1 (by rw [put_defers]; exact hd) hq

end Am

/- AmSound2: control, loops, ranges over functions, rounds, functions: what the abstract machine does, the model does. -/
namespace Am
set_option linter.unusedVariables false
set_option linter.unusedSimpArgs false
open Go (IntKind BinOp UnOp Value Program TypeId TypeDesc Operand Oper Code Tmp World Addr Obj Act Fence)

variable {P : Program} {B : Nat} {e e' : Emb} {h h' : H} {w w' : World} {nt N : Nat}

/-- Of a region that draws its order. -/
def DrawSound (P : Program) (R : RunT) : Prop := ∀ (nt : Nat) (ops : Array Oper) (as : List AOper) (t t' : Tm) (h h' : H), P.follows .mixedOrders = true → compRegD P nt ops = some as → evOpsD R as t h [h] = some (t', h') →
  ∀ (F : Fence) (n N B : Nat) (e : Emb) (w : World) (a : Act) (rs : List Nat) (id : Nat), wideF F → Sim (CC P) B e h w → TR e nt t a → DefOk N e h w a.defers rs →
    (Code.region id ops true).wpIn F n P (Post P B nt N e h w .normal t' h') a w

theorem Post.before {x : Ex} {t' : Tm} {h1 h2 : H} {e1 : Emb} {w1 : World} (s : Stp (CC P) B e h w e1 h1 w1) {E : Go.Exit} {a : Act} {w2 : World} (hp : Post P B nt N e1 h1 w1 x t' h2 E a w2) :
    Post P B nt N e h w x t' h2 E a w2 := by
  obtain ⟨h1, e2, rs, h2, h3, h4⟩ := hp
  exact ⟨h1, e2, rs, h2, s.trans h3, h4⟩

/-- A block of one's own, made since, is given up. -/
theorem Stp.drop {C : Cx} (st : Stp C B e h w e' h' w') {b : Nat} {x : Blk} {l : Loc} (hb : h'.get b = some x) (hown : x.own = true) (hl : e' b = some l) (hnew : w.heap.size ≤ l.cb) (o : Obj) :
    Stp C B e h w e' (h'.kill b) (w'.putObj l.cb o) := by
  have gk : ∀ c y, (h'.kill b).get c = some y → c ≠ b ∧ h'.get c = some y := by
    intro c y hc
    rw [H.get_kill] at hc
    by_cases hcb : c = b
    · rw [if_pos hcb] at hc; cases hc
    · rw [if_neg hcb] at hc; exact ⟨hcb, hc⟩
  refine ⟨st.le, (st.sim.kill b).of_heap (fun c y m hc hm => ?_) (Nat.le_of_eq Go.World.putObj_size.symm), fun c ho => ?_, fun c ho => ?_, fun c hc ho => ?_, by rw [Go.World.putObj_size]; exact st.grow, st.nx, st.sky.trans ⟨rfl, rfl, rfl⟩⟩
  · obtain ⟨hne, hc'⟩ := gk c y hc
    exact Go.World.putObj_heap_other (Ne.symm (st.sim.inj b c x y l m hb hc' hown (Ne.symm hne) hl hm))
  · obtain ⟨c', y, m, hc', hy, hm, rfl⟩ := ho
    exact st.own _ ⟨c', y, m, (gk _ _ hc').2, hy, hm, rfl⟩
  · obtain ⟨c', y, m, hc', hm, rfl⟩ := ho
    exact st.img _ ⟨c', y, m, (gk _ _ hc').2, hm, rfl⟩
  · rw [Go.World.putObj_heap_other (by omega)]
    exact st.keep c hc ho

/-- A block that the machine does not know, made since, is written. -/
theorem Stp.aside {C : Cx} (st : Stp C B e h w e' h' w') {r : Nat} (hr : ¬ Img e' h' r) (hnew : w.heap.size ≤ r) (o : Obj) : Stp C B e h w e' h' (w'.putObj r o) := by
  refine ⟨st.le, st.sim.of_heap (fun c y m hc hm => ?_) (Nat.le_of_eq Go.World.putObj_size.symm), st.own, st.img, fun c hc ho => ?_, by rw [Go.World.putObj_size]; exact st.grow, st.nx, st.sky.trans ⟨rfl, rfl, rfl⟩⟩
  · exact Go.World.putObj_heap_other (fun hh => hr ⟨c, y, m, hc, hm, hh⟩)
  · rw [Go.World.putObj_heap_other (by omega)]
    exact st.keep c hc ho

theorem loop_blk (s : Sim (CC P) B e h w) {b : Nat} {L : LoopSt} (hb : h.get b = some (.loop L)) : ∃ l r, e b = some l ∧ w.heap[l.cb]? = some (.loop r) ∧ LoopR e L r ∧ CC P L.nt r.assign L.assign ∧ CC P L.nt r.body L.body ∧ l.cb < w.heap.size := by
  obtain ⟨l, hl, ⟨r, hr, hL, h1, h2⟩, hlt, _⟩ := s.blk b _ hb
  exact ⟨l, r, hl, hr, hL, h1, h2, hlt⟩

/-- What entering a range over a function lays. -/
theorem enter_sound (s : Sim (CC P) B e h w) {F : Fence} {ar : Option Nat} (har : AroundR e F ar) (hok : aroundOk h ar = true) {t : Tm} {a : Act} (ht : TR e nt t a) {rs : List Nat} (hd : DefOk N e h w a.defers rs) (hN : N ≤ w.heap.size)
    {ps : Array Tmp} (hps : ps.all (fun p => decide (p < nt)) = true) {assign body : Code} {x y : ACode} (hx : compC P nt assign = some x) (hy : compC P nt body = some y) (fn : Nat) :
    ∃ l mark w1 rs1, (Go.Instr.enterLoop fn a.tmps ps assign body F.round).run P w = .ok (l, mark) w1 ∧ w.heap.size ≤ l ∧
      Stp (CC P) B e h w (e.add h.nx ⟨l, 0, 1, 0⟩) (h.push (.loop { st := .ready, pend := .normal, tm := t, nt := nt, params := ps.toList, assign := x, body := y })) w1 ∧
      DefOk N (e.add h.nx ⟨l, 0, 1, 0⟩) (h.push (.loop { st := .ready, pend := .normal, tm := t, nt := nt, params := ps.toList, assign := x, body := y })) w1 (mark ++ a.defers) rs1 := by
  have hloop : ∀ (l d : Nat) (w1 : World), w1.heap[l]? = some (.loop { state := .ready, pending := none, fn := fn, tmps := a.tmps, params := ps, assign := assign, body := body, defers := d }) →
      BlkR (CC P) (e.add h.nx ⟨l, 0, 1, 0⟩) (.loop { st := .ready, pend := .normal, tm := t, nt := nt, params := ps.toList, assign := x, body := y }) ⟨l, 0, 1, 0⟩ w1 := fun l d w1 hl => by
    have hle : e.le (e.add h.nx ⟨l, 0, 1, 0⟩) := Emb.le_add _ s.fresh
    refine ⟨_, hl, ⟨rfl, rfl, ht.size, fun n => (ht.get n).mono hle, rfl, fun p hp => ?_⟩, hx, hy⟩
    have := Array.all_eq_true_iff_forall_mem.1 hps p (by simpa using hp)
    simpa using this
  cases ar with
  | none =>
    have hro : F.round = none := har
    rw [hro]
    refine ⟨_, _, _, w.heap.size :: rs, Go.run_enterLoop_outer (w := w) fn a.tmps ps assign body, by omega, ?_⟩
    generalize hw1 : ((w.alloc (.deferred (some []))).alloc (.loop { state := .ready, pending := none, fn, tmps := a.tmps, params := ps, assign, body, defers := w.heap.size })) = w1
    have hhp : w1.heap = (w.heap.push (.deferred (some []))).push (.loop { state := .ready, pending := none, fn, tmps := a.tmps, params := ps, assign, body, defers := w.heap.size }) := by subst hw1; rfl
    have hsky : Sky w w1 := by subst hw1; exact ⟨rfl, rfl, rfl⟩
    clear hw1
    have hsz : w1.heap.size = w.heap.size + 2 := by rw [hhp]; simp
    have hold : ∀ c, c < w.heap.size → w1.heap[c]? = w.heap[c]? := fun c hc => by
      rw [hhp, Array.getElem?_push, Array.size_push, if_neg (by omega), Array.getElem?_push, if_neg (by omega)]
    have hl : w1.heap[w.heap.size + 1]? = some (.loop { state := .ready, pending := none, fn := fn, tmps := a.tmps, params := ps, assign := assign, body := body, defers := w.heap.size }) := by
      rw [hhp, Array.getElem?_push, Array.size_push, if_pos rfl]
    have hdd : w1.heap[w.heap.size]? = some (.deferred (some [])) := by
      rw [hhp, Array.getElem?_push, Array.size_push, if_neg (by omega), Array.getElem?_push, if_pos rfl]
    have st := Stp.push s _ ⟨w.heap.size + 1, 0, 1, 0⟩ (w' := w1) (by simp) hold (by simp [hsz]) (hloop _ _ _ hl) hsky
    refine ⟨st, ?_⟩
    have hd1 := hd.step st
    have himg : ¬ Img (e.add h.nx ⟨w.heap.size + 1, 0, 1, 0⟩) (h.push (.loop { st := .ready, pend := .normal, tm := t, nt := nt, params := ps.toList, assign := x, body := y })) w.heap.size := by
      rintro ⟨b, z, m, hb, hm, hcb⟩
      rw [H.get_push] at hb
      by_cases hbn : b = h.nx
      · subst hbn; rw [Emb.add_same] at hm; cases hm; simp at hcb
      · rw [if_neg hbn] at hb
        obtain ⟨m', hm', _, hlt, _⟩ := s.blk b z hb
        have : e.add h.nx ⟨w.heap.size + 1, 0, 1, 0⟩ b = some m' := Emb.le_add _ s.fresh _ _ hm'
        rw [this] at hm; cases hm; omega
    refine ⟨by simp [hd1.eq], List.nodup_cons.2 ⟨fun hm => ?_, hd1.nd⟩, fun r hr => ?_⟩
    · have := (hd.at_ _ hm).2.1; omega
    · rcases List.mem_cons.1 hr with rfl | hr
      · exact ⟨hdd, by omega, himg, hN⟩
      · exact hd1.at_ r hr
  | some l0 =>
    obtain ⟨loc, hloc, hro⟩ := har
    simp only [aroundOk] at hok
    split at hok
    · rename_i L0 hg
      obtain ⟨loc', r0, hloc', hr0, _⟩ := loop_blk s hg
      rw [hloc] at hloc'; cases hloc'
      rw [hro]
      refine ⟨_, _, _, rs, Go.run_enterLoop_inner (w := w) hr0 fn a.tmps ps assign body, Nat.le_refl _, ?_⟩
      generalize hw1 : (w.alloc (.loop { state := .ready, pending := none, fn, tmps := a.tmps, params := ps, assign, body, defers := r0.defers })) = w1
      have hhp : w1.heap = w.heap.push (.loop { state := .ready, pending := none, fn, tmps := a.tmps, params := ps, assign, body, defers := r0.defers }) := by subst hw1; rfl
      have hsky : Sky w w1 := by subst hw1; exact ⟨rfl, rfl, rfl⟩
      clear hw1
      have hold : ∀ c, c < w.heap.size → w1.heap[c]? = w.heap[c]? := fun c hc => by
        rw [hhp, Array.getElem?_push, if_neg (by omega)]
      have hl : w1.heap[w.heap.size]? = some (.loop { state := .ready, pending := none, fn := fn, tmps := a.tmps, params := ps, assign := assign, body := body, defers := r0.defers }) := by
        rw [hhp, Array.getElem?_push, if_pos rfl]
      have st := Stp.push s _ ⟨w.heap.size, 0, 1, 0⟩ (w' := w1) (by simp) hold (by rw [hhp]; simp) (hloop _ _ _ hl) hsky
      exact ⟨st, by simpa using hd.step st⟩
    · simp at hok

theorem stepR_scope {b : Go.Frame} {a : Act} {k : List Go.Item} {cs : List Go.Frame} {w : World} {c : Code} : Go.step P (Go.lone (b.atR a (.code (.scope c) :: k)) cs w) = .next (Go.lone (b.atR a (.code c :: .inScope c :: k)) cs w) :=
  Go.step_lone_go (by simp [Go.stepG, Go.stepG.exec, Go.Frame.atR])
theorem stepR_inScope {b : Go.Frame} {a : Act} {k : List Go.Item} {cs : List Go.Frame} {w : World} {c : Code} : Go.step P (Go.lone (b.atR a (.inScope c :: k)) cs w) = .next (Go.lone (b.atR a k) cs w) :=
  Go.step_lone_go (by simp [Go.stepG, Go.stepG.exec, Go.Frame.atR])
theorem wpIn_scope {F : Fence} {n : Nat} {Q : Go.Exit → Act → World → Prop} {a : Act} {w : World} {c : Code} (h : c.wpIn F n P (Go.Exit.noGoto Q) a w) : (Code.scope c).wpIn F n P Q a w := by
  intro b k cs hro hb hr
  have h0 : (Go.lone (b.atR a (.code (.scope c) :: k)) cs w).fenced P F := Go.fenced_calm hb hr rfl
  obtain ⟨e, a₁, w₁, hq, harr⟩ := h b (.inScope c :: k) cs hro hb hr
  cases e with
  | normal => exact ⟨.normal, a₁, w₁, hq, .head h0 stepR_scope (Go.StepsIn.trans harr (.one (Go.fenced_calm hb hr rfl) stepR_inScope))⟩
  | exit id =>
    have hx : Go.exitTo id (.inScope c :: k) = Go.exitTo id k := by simp [Go.exitTo]
    exact ⟨.exit id, a₁, w₁, hq, fun k' hk => .head h0 stepR_scope (harr.1 k' (by rw [hx]; exact hk)),
      fun hr' hk => let ⟨k₁, h1, h2⟩ := harr.2 hr' (by rw [hx]; exact hk); ⟨k₁, h1, .head h0 stepR_scope h2⟩⟩
  | goto l => exact hq.elim
  | ret => exact ⟨_, a₁, w₁, hq, .of_steps (.one h0 stepR_scope) harr⟩
  | panic ch => exact ⟨_, a₁, w₁, hq, .of_steps (.one h0 stepR_scope) harr⟩
  | outgrown => exact ⟨_, a₁, w₁, hq, .of_steps (.one h0 stepR_scope) harr⟩

theorem roundsIn_mono {F : Fence} {n : Nat} {c : Code} {Q Q' : Go.Exit → Act → World → Prop} (hq : ∀ E a w, Q E a w → Q' E a w) : ∀ {m : Nat} {a : Act} {w : World}, Code.roundsIn F n P c Q m a w → Code.roundsIn F n P c Q' m a w
  | 0, _, _, h => h
  | m + 1, a, w, h => Go.wpIn_mono h fun E a w hh => by
    cases E <;> first
      | exact roundsIn_mono hq hh
      | exact hq _ _ _ hh

theorem evA_sound {R : RunT} (hR : RunOk P R) (hD : DrawSound P R) (k : Nat) {ar : Option Nat} {F : Fence} {n : Nat} (hF : wideF F) : ∀ (c : Code) {ac : ACode} {t t' : Tm} {h h' : H} {x : Ex} {e : Emb} {w : World} {a : Act} {rs : List Nat},
    compC P nt c = some ac → evA R (fun b s => iter b k s) nt ar ac t h = some (x, t', h') → AroundR e F ar → N ≤ w.heap.size → Sim (CC P) B e h w → TR e nt t a → DefOk N e h w a.defers rs →
    c.wpIn F n P (Post P B nt N e h w x t' h') a w := by
  intro c
  induction c with
  | skip =>
    intro ac t t' h h' x e w a rs hc hev har hN s ht hd
    simp [compC] at hc; subst hc; simp [evA] at hev; obtain ⟨rfl, rfl, rfl⟩ := hev
    exact Go.wpIn_skip ⟨trivial, e, rs, ht, Stp.refl s, hd⟩
  | label l =>
    intro ac t t' h h' x e w a rs hc hev har hN s ht hd
    simp [compC] at hc; subst hc; simp [evA] at hev; obtain ⟨rfl, rfl, rfl⟩ := hev
    exact Go.wpIn_label ⟨trivial, e, rs, ht, Stp.refl s, hd⟩
  | region id ops draw =>
    intro ac t t' h h' x e w a rs hc hev har hN s ht hd
    unfold compC at hc
    cases draw with
    | true =>
      simp only [if_true] at hc
      split at hc
      · rename_i hok
        obtain ⟨as, has, rfl⟩ := Option.map_eq_some_iff.1 hc
        simp only [evA] at hev
        obtain ⟨⟨t1, h1⟩, hev1, hev⟩ := Option.bind_eq_some_iff.1 hev
        simp at hev; obtain ⟨rfl, rfl, rfl⟩ := hev
        exact hD nt ops as t t1 h h1 hok has hev1 F n N B e w a rs id hF s ht hd
      · simp at hc
    | false =>
      simp only [Bool.false_eq_true, if_false] at hc
      obtain ⟨as, has, rfl⟩ := Option.map_eq_some_iff.1 hc
      simp only [evA] at hev
      obtain ⟨⟨t1, h1⟩, hev1, hev⟩ := Option.bind_eq_some_iff.1 hev
      simp at hev; obtain ⟨rfl, rfl, rfl⟩ := hev
      exact Go.wpIn_region_list (evOps_sound hR hF has hev1 s ht hd fun e' a' w' rs' h1 h2 h3 => ⟨trivial, e', rs', h1, h2, h3⟩)
  | seq c1 c2 ih1 ih2 =>
    intro ac t t' h h' x e w a rs hc hev har hN s ht hd
    unfold compC at hc
    obtain ⟨x1, hx1, hc⟩ := Option.bind_eq_some_iff.1 hc
    obtain ⟨x2, hx2, hc⟩ := Option.bind_eq_some_iff.1 hc
    cases hc
    simp only [evA] at hev
    obtain ⟨⟨y, t1, h1⟩, hev1, hev⟩ := Option.bind_eq_some_iff.1 hev
    refine Go.wpIn_seq (Go.wpIn_mono (ih1 hx1 hev1 har hN s ht hd) fun E a1 w1 hp => ?_)
    obtain ⟨hE, e1, rs1, ht1, hs1, hd1⟩ := hp
    cases y with
    | normal =>
      cases E <;> simp [ExR] at hE
      exact Go.wpIn_mono (ih2 hx2 hev (har.mono hs1.le) (Nat.le_trans hN hs1.grow) hs1.sim ht1 hd1) fun E a2 w2 hp => hp.before hs1
    | exit i =>
      simp at hev; obtain ⟨rfl, rfl, rfl⟩ := hev
      cases E <;> simp [ExR] at hE
      exact ⟨hE, e1, rs1, ht1, hs1, hd1⟩
    | ret =>
      simp at hev; obtain ⟨rfl, rfl, rfl⟩ := hev
      cases E <;> simp [ExR] at hE
      exact ⟨trivial, e1, rs1, ht1, hs1, hd1⟩
  | cond c c1 c2 ih1 ih2 =>
    intro ac t t' h h' x e w a rs hc hev har hN s ht hd
    unfold compC at hc
    obtain ⟨z, hz, hc⟩ := Option.bind_eq_some_iff.1 hc
    obtain ⟨x1, hx1, hc⟩ := Option.bind_eq_some_iff.1 hc
    obtain ⟨x2, hx2, hc⟩ := Option.bind_eq_some_iff.1 hc
    cases hc
    simp only [evA] at hev
    have hv := ht.opd s.gl glOf_at hz
    split at hev
    · rename_i v hv'
      rw [hv'] at hv
      refine Go.wpIn_cond hv.b_inv ?_
      cases v with
      | true => exact ih1 hx1 (by simpa using hev) har hN s ht hd
      | false => exact ih2 hx2 (by simpa using hev) har hN s ht hd
    · simp at hev
  | block id c ih =>
    intro ac t t' h h' x e w a rs hc hev har hN s ht hd
    unfold compC at hc
    obtain ⟨x1, hx1, rfl⟩ := Option.map_eq_some_iff.1 hc
    simp only [evA] at hev
    obtain ⟨⟨y, t1, h1⟩, hev1, hev⟩ := Option.bind_eq_some_iff.1 hev
    refine Go.wpIn_block (Go.wpIn_mono (ih hx1 hev1 har hN s ht hd) fun E a1 w1 hp => ?_)
    obtain ⟨hE, e1, rs1, ht1, hs1, hd1⟩ := hp
    cases y with
    | normal =>
      simp at hev; obtain ⟨rfl, rfl, rfl⟩ := hev
      cases E <;> simp [ExR] at hE
      exact ⟨trivial, e1, rs1, ht1, hs1, hd1⟩
    | exit i =>
      cases E with
      | exit j =>
        simp only [ExR] at hE; subst hE
        simp only [Go.Exit.inBlock]
        by_cases hi : i = id
        · simp [hi] at hev; obtain ⟨rfl, rfl, rfl⟩ := hev
          rw [if_pos hi]
          exact ⟨trivial, e1, rs1, ht1, hs1, hd1⟩
        · simp [hi] at hev; obtain ⟨rfl, rfl, rfl⟩ := hev
          rw [if_neg hi]
          exact ⟨rfl, e1, rs1, ht1, hs1, hd1⟩
      | _ => simp [ExR] at hE
    | ret =>
      simp at hev; obtain ⟨rfl, rfl, rfl⟩ := hev
      cases E <;> simp [ExR] at hE
      exact ⟨trivial, e1, rs1, ht1, hs1, hd1⟩
  | loop c ih =>
    intro ac t t' h h' x e w a rs hc hev har hN s ht hd
    unfold compC at hc
    obtain ⟨x1, hx1, rfl⟩ := Option.map_eq_some_iff.1 hc
    simp only [evA] at hev
    refine Go.wpIn_loop_rounds k ?_
    have key : ∀ (m : Nat) {t t' : Tm} {h h' : H} {x : Ex} {e : Emb} {w : World} {a : Act} {rs : List Nat},
        iter (fun s => (evA R (fun b s => iter b k s) nt ar x1 s.1 s.2).bind fun r => match r.1 with
          | .normal => some (none, r.2)
          | e => some (some e, r.2)) m (t, h) = some (x, t', h') → AroundR e F ar → N ≤ w.heap.size → Sim (CC P) B e h w → TR e nt t a → DefOk N e h w a.defers rs →
        Code.roundsIn F n P c (Post P B nt N e h w x t' h') m a w := by
      intro m
      induction m with
      | zero => intro t t' h h' x e w a rs hev; simp [iter] at hev
      | succ m ihm =>
        intro t t' h h' x e w a rs hev har hN s ht hd
        unfold iter at hev
        obtain ⟨⟨y, t1, h1⟩, hev1, hev⟩ := Option.bind_eq_some_iff.1 hev
        obtain ⟨⟨y', t2, h2⟩, hev2, hev3⟩ := Option.bind_eq_some_iff.1 hev1
        rw [Go.roundsIn_succ]
        refine Go.wpIn_mono (ih hx1 hev2 har hN s ht hd) fun E a1 w1 hp => ?_
        obtain ⟨hE, e1, rs1, ht1, hs1, hd1⟩ := hp
        cases y' with
        | normal =>
          simp at hev3; obtain ⟨rfl, rfl, rfl⟩ := hev3
          cases E <;> simp [ExR] at hE
          have hr := ihm hev (har.mono hs1.le) (Nat.le_trans hN hs1.grow) hs1.sim ht1 hd1
          simp only [Go.Exit.then]
          exact roundsIn_mono (fun E a2 w2 hp => hp.before hs1) hr
        | exit i =>
          simp at hev3; obtain ⟨rfl, rfl, rfl⟩ := hev3
          simp at hev; obtain ⟨rfl, rfl, rfl⟩ := hev
          cases E <;> simp [ExR] at hE
          exact ⟨hE, e1, rs1, ht1, hs1, hd1⟩
        | ret =>
          simp at hev3; obtain ⟨rfl, rfl, rfl⟩ := hev3
          simp at hev; obtain ⟨rfl, rfl, rfl⟩ := hev
          cases E <;> simp [ExR] at hE
          exact ⟨trivial, e1, rs1, ht1, hs1, hd1⟩
    exact key k hev har hN s ht hd
  | rangeFunc f ps assign body ih1 ih2 =>
    intro ac t t' h h' x e w a rs hc hev har hN s ht hd
    unfold compC at hc
    split at hc
    · rename_i hps
      obtain ⟨z, hz, hc⟩ := Option.bind_eq_some_iff.1 hc
      obtain ⟨x1, hx1, hc⟩ := Option.bind_eq_some_iff.1 hc
      obtain ⟨x2, hx2, hc⟩ := Option.bind_eq_some_iff.1 hc
      cases hc
      simp only [evA] at hev
      have hfv := ht.opd s.gl glOf_at hz
      split at hev
      · rename_i hok
        split at hev
        · rename_i fc caps hfe
          rw [hfe] at hfv
          generalize hu : a.eval f = u at hfv
          obtain ⟨⟨v, h1⟩, hcall, hev⟩ := Option.bind_eq_some_iff.1 hev
          refine Go.wpIn_rangeFunc fun fn _ => ?_
          obtain ⟨l, mark, w1, rs1, hen, hl, st, hd1⟩ := enter_sound s har hok ht hd hN hps hx1 hx2 fn
          cases hfv with
          | fn _ _ ws hws =>
            have hyl : VR (e.add h.nx ⟨l, 0, 1, 0⟩) (.f (.yl h.nx) []) (.func (.yield l) #[] #[]) := .yl h.nx ⟨l, 0, 1, 0⟩ (Emb.add_same _ _ _)
            have hargs : VRL (e.add h.nx ⟨l, 0, 1, 0⟩) ([.f (.yl h.nx) []] ++ caps) (#[.func (.yield l) #[] #[]] ++ ws : Array Value).toList := by
              simpa using VRL.cons _ _ _ _ hyl (hws.mono st.le)
            obtain ⟨hinv, hent⟩ := hR _ _ _ _ _ hcall B _ w1 _ F (n - 1) hargs st.sim hF
            have hent := hent rfl
            rw [hent] at hinv
            refine ⟨l, mark, w1, { target := .fn (.func fc) ws, args := #[.func (.yield l) #[] #[]] }, w1, fc, _, w1, hen, ?_, fun g _ => hF.1 g, ?_, fun hh => absurd hh (by simp [hF.2.1]), Go.CallsIn.mono hinv ?_⟩
            · have hce : ∀ v, a.eval (.const v) = v := fun _ => rfl
              simp [Go.resolve, hu, hce, Go.Deferred.ofValue]
            · simpa [Go.invoke] using hent w1
            · rintro E w3 ⟨u, rfl, e3, hv3, st3⟩
              simp only [Go.rangePost]
              simp only at hev
              split at hev
              · rename_i L hL
                split at hev
                · simp at hev
                · rename_i hbusy
                  simp at hev
                  obtain ⟨rfl, rfl, rfl⟩ := hev
                  obtain ⟨loc, r, hloc, hr, hLR, _, _, hlt⟩ := loop_blk st3.sim hL
                  have hloc' : e3 h.nx = some ⟨l, 0, 1, 0⟩ := st3.le _ _ (Emb.add_same _ _ _)
                  rw [hloc] at hloc'; cases hloc'
                  have hrb : r.state ≠ .busy := by
                    have := hLR.1
                    cases hst : L.st <;> simp_all
                  refine ⟨_, _, Go.run_endLoop hr hrb, ?_⟩
                  have stf := (st.trans st3).drop hL rfl hloc hl (.loop { r with state := .exhausted })
                  have hd3 := hd1.step st3
                  have hdf : DefOk N e3 (h1.kill h.nx) (w3.putObj l (.loop { r with state := .exhausted })) (mark ++ a.defers) rs1 := by
                    refine ⟨hd3.eq, hd3.nd, fun q hq => ?_⟩
                    obtain ⟨k1, k2, k3, k4⟩ := hd3.at_ q hq
                    have hne : q ≠ l := fun hh => k3 (hh ▸ ⟨_, _, _, hL, hloc, rfl⟩)
                    refine ⟨by rw [Go.World.putObj_heap_other hne]; exact k1, by rw [Go.World.putObj_size]; exact k2, fun hi => k3 ?_, k4⟩
                    obtain ⟨c', y, m, hc', hm, hcb⟩ := hi
                    rw [H.get_kill] at hc'
                    by_cases hcb' : c' = h.nx
                    · rw [if_pos hcb'] at hc'; cases hc'
                    · rw [if_neg hcb'] at hc'; exact ⟨c', y, m, hc', hm, hcb⟩
                  have htf : TR e3 nt t { a with defers := mark ++ a.defers } := ⟨ht.size, fun q => (ht.get q).mono stf.le⟩
                  have hpend := hLR.2.1
                  change Stp (CC P) B e h w e3 (h1.kill h.nx) (w3.putObj l (.loop { r with state := .exhausted })) at stf
                  change match r.pending with
                    | none => Post P B nt N e h w L.pend t (h1.kill h.nx) .normal { a with defers := mark ++ a.defers } (w3.putObj l (.loop { r with state := .exhausted }))
                    | some c => c.wpIn F n P (Post P B nt N e h w L.pend t (h1.kill h.nx)) { a with defers := mark ++ a.defers } (w3.putObj l (.loop { r with state := .exhausted }))
                  generalize hw4 : w3.putObj l (.loop { r with state := .exhausted }) = w4 at stf hdf ⊢
                  cases hp : L.pend with
                  | normal => rw [hp] at hpend; simp only at hpend; rw [hpend]; exact ⟨trivial, e3, rs1, htf, stf, hdf⟩
                  | ret => rw [hp] at hpend; simp only at hpend; rw [hpend]; exact Go.wpIn_ret ⟨trivial, e3, rs1, htf, stf, hdf⟩
                  | exit i => rw [hp] at hpend; simp only at hpend; rw [hpend]; exact Go.wpIn_exit ⟨rfl, e3, rs1, htf, stf, hdf⟩
              · simp at hev
        · simp at hev
      · simp at hev
    · simp at hc
  | exit i =>
    intro ac t t' h h' x e w a rs hc hev har hN s ht hd
    simp [compC] at hc; subst hc; simp [evA] at hev; obtain ⟨rfl, rfl, rfl⟩ := hev
    exact Go.wpIn_exit ⟨rfl, e, rs, ht, Stp.refl s, hd⟩
  | ret =>
    intro ac t t' h h' x e w a rs hc hev har hN s ht hd
    simp [compC] at hc; subst hc; simp [evA] at hev; obtain ⟨rfl, rfl, rfl⟩ := hev
    exact Go.wpIn_ret ⟨trivial, e, rs, ht, Stp.refl s, hd⟩
  | scope c ih =>
    intro ac t t' h h' x e w a rs hc hev har hN s ht hd
    refine wpIn_scope (Go.wpIn_mono (ih (by simpa [compC] using hc) hev har hN s ht hd) fun E a1 w1 hp => ?_)
    cases E with
    | goto l => exact absurd hp.1 (by cases x <;> simp [ExR])
    | _ => exact hp
  | goto l =>
    intro ac t t' h h' x e w a rs hc hev har hN s ht hd
    simp [compC] at hc; subst hc; simp [evA] at hev
  | refuse why =>
    intro ac t t' h h' x e w a rs hc hev har hN s ht hd
    simp [compC] at hc; subst hc; simp [evA] at hev

end Am

/- AmSound3: rounds, results, functions, the runner. -/
namespace Am
set_option linter.unusedVariables false
set_option linter.unusedSimpArgs false
open Go (IntKind BinOp UnOp Value Program TypeId TypeDesc Operand Oper Code Tmp World Addr Obj Act Fence)

variable {P : Program} {B : Nat} {e e' : Emb} {h h' : H} {w w' : World} {nt N : Nat}

/-! ### Rounds -/
theorem stParams_sound : ∀ {ps : List Nat} {args : List V} {cargs : List Value} {t : Tm} {tmps : Array Value}, VRL e args cargs → args.length = ps.length → (∀ p ∈ ps, p < nt) → TR e nt t { tmps := tmps, defers := [] } →
    TR e nt (stParams t ps args) { tmps := (ps.zip cargs).foldl (fun tmps q => tmps.setIfInBounds q.1 q.2) tmps, defers := [] }
  | [], args, cargs, t, tmps, _, _, _, ht => by simp [stParams]; exact ht
  | p :: ps, [], cargs, t, tmps, _, hl, _, _ => by simp at hl
  | p :: ps, v :: vs, cargs, t, tmps, hv, hl, hp, ht => by
    cases hv with
    | cons _ u _ us h1 h2 =>
      simp only [stParams, List.zip_cons_cons, List.foldl_cons]
      refine stParams_sound h2 (by simpa using hl) (fun q hq => hp q (List.mem_cons_of_mem _ hq)) ?_
      have := ht.put (d := some p) (by simp [dstOk]; exact hp p (by simp)) h1
      exact this

theorem Stp.loopSet (s : Sim (CC P) B e h w) {b : Nat} {L L' : LoopSt} {l : Loc} {r' : Go.Loop} (hb : h.get b = some (.loop L)) (hl : e b = some l) (hr : LoopR e L' r' ∧ CC P L'.nt r'.assign L'.assign ∧ CC P L'.nt r'.body L'.body) :
    Stp (CC P) B e h w e (h.set b (.loop L')) (w.putObj l.cb (.loop r')) := by
  obtain ⟨l0, hl0, _, hlt, _⟩ := s.blk b _ hb
  rw [hl] at hl0; cases hl0
  refine Stp.set s hb rfl hl (fun c hc => Go.World.putObj_heap_other hc) Go.World.putObj_size ?_
  exact ⟨r', Go.World.putObj_heap_same hlt, hr.1, hr.2.1, hr.2.2⟩

theorem round_sound {R : RunT} (hR : RunOk P R) (hD : DrawSound P R) (k : Nat) {l : Nat} {L : LoopSt} {args : List V} {v : V} (hg : h.get l = some (.loop L)) (hev : evRound R (fun b s => iter b k s) l L args h = some (v, h'))
    {cargs : Array Value} {F : Fence} (n : Nat) (hv : VRL e args cargs.toList) (s : Sim (CC P) B e h w) (hF : wideF F) {loc : Loc} (hloc : e l = some loc) :
    InvPost F n P (CallPost P B e h w v h') ((Go.Instr.yield loc.cb cargs).run P w) := by
  obtain ⟨loc', r, hloc', hr, hLR, hca, hcb, hlt⟩ := loop_blk s hg
  rw [hloc] at hloc'; cases hloc'
  unfold evRound at hev
  split at hev
  · rename_i hlen
    have hps : cargs.size = r.params.size := by
      have h1 := hv.length
      have h2 := congrArg List.length hLR.2.2.2.2.1
      simp at h1 h2; omega
    rw [Go.run_yield hr hps]
    simp only [InvPost]
    obtain ⟨⟨x, t1, h1⟩, hev1, hev⟩ := Option.bind_eq_some_iff.1 hev
    refine Go.roundIn_of_wpIn (hF.1 _) ?_
    have hFr : wideF (F.inRound loc.cb) := hF
    have ht0 : TR e L.nt (stParams L.tm L.params args) { tmps := (r.params.zip cargs).foldl (fun tmps (t, a) => tmps.setIfInBounds t a) r.tmps, defers := [] } := by
      have := stParams_sound (nt := L.nt) (ps := L.params) (t := L.tm) (tmps := r.tmps) hv (by simpa using hlen) hLR.2.2.2.2.2 ⟨hLR.2.2.1, hLR.2.2.2.1⟩
      have heq : (L.params.zip cargs.toList).foldl (fun tmps q => tmps.setIfInBounds q.1 q.2) r.tmps = (r.params.zip cargs).foldl (fun tmps (t, a) => tmps.setIfInBounds t a) r.tmps := by
        rw [hLR.2.2.2.2.1, ← Array.foldl_toList, Array.toList_zip]
      rw [heq] at this
      exact this
    refine Go.wpIn_mono (evA_sound (N := 0) hR hD k hFr r.assign hca hev1 ⟨loc, hloc, rfl⟩ (Nat.zero_le _) s ht0 (rs := []) ⟨rfl, List.nodup_nil, fun _ h => by simp at h⟩) fun E a1 w1 hp => ?_
    obtain ⟨hE, e1, rs1, ht1, hs1, hd1⟩ := hp
    cases x with
    | normal =>
      cases E <;> simp [ExR] at hE
      simp only [Go.Exit.then]
      simp only at hev
      split at hev
      · rename_i L1 hL1
        split at hev
        · rename_i hrd
          obtain ⟨⟨y, t2, h2⟩, hev2, hev3⟩ := Option.bind_eq_some_iff.1 hev
          obtain ⟨loc1, r1, hloc1, hr1, hLR1, hca1, hcb1, _⟩ := loop_blk hs1.sim hL1
          have hll := hs1.le _ _ hloc
          rw [hll] at hloc1; cases hloc1
          have hst1 : r1.state = .ready := by have := hLR1.1; rw [hrd] at this; exact this
          refine ⟨_, Go.run_beginRound hr1 hst1, ?_⟩
          have stb := Stp.loopSet hs1.sim hL1 hll (L' := { L1 with st := .busy }) (r' := { r1 with state := .busy }) ⟨⟨rfl, hLR1.2.1, hLR1.2.2.1, hLR1.2.2.2.1, hLR1.2.2.2.2⟩, hca1, hcb1⟩
          have hd2 := hd1.step stb
          refine Go.wpIn_mono (evA_sound (N := 0) hR hD k hFr r.body hcb hev2 ⟨loc, hll, rfl⟩ (Nat.zero_le _) stb.sim ht1 hd2) fun E a2 w2 hp => ?_
          obtain ⟨hE, e2, rs2, ht2, hs2, hd3⟩ := hp
          simp only at hev3
          split at hev3
          · rename_i L2 hL2
            simp at hev3
            obtain ⟨rfl, rfl⟩ := hev3
            obtain ⟨loc2, r2, hloc2, hr2, hLR2, hca2, hcb2, _⟩ := loop_blk hs2.sim hL2
            have hll2 := hs2.le _ _ hll
            rw [hll2] at hloc2; cases hloc2
            cases y with
            | normal =>
              cases E <;> simp [ExR] at hE
              refine ⟨_, _, Go.run_endRound none hr2, _, rfl, e2, ?_, (hs1.trans stb).trans (hs2.trans (Stp.loopSet hs2.sim hL2 hll2 ⟨⟨?_, ?_, hLR2.2.2.1, hLR2.2.2.2.1, hLR2.2.2.2.2⟩, hca2, hcb2⟩))⟩
              · exact .b true
              · simp
              · simp
            | exit i =>
              cases E <;> simp [ExR] at hE
              subst hE
              refine ⟨_, _, Go.run_endRound (some (.exit i)) hr2, _, rfl, e2, ?_, (hs1.trans stb).trans (hs2.trans (Stp.loopSet hs2.sim hL2 hll2 ⟨⟨?_, ?_, hLR2.2.2.1, hLR2.2.2.2.1, hLR2.2.2.2.2⟩, hca2, hcb2⟩))⟩
              · exact .b false
              · simp
              · simp
            | ret =>
              cases E <;> simp [ExR] at hE
              refine ⟨_, _, Go.run_endRound (some .ret) hr2, _, rfl, e2, ?_, (hs1.trans stb).trans (hs2.trans (Stp.loopSet hs2.sim hL2 hll2 ⟨⟨?_, ?_, hLR2.2.2.1, hLR2.2.2.2.1, hLR2.2.2.2.2⟩, hca2, hcb2⟩))⟩
              · exact .b false
              · simp
              · simp
          · simp at hev3
        · simp at hev
      · simp at hev
    | exit i => simp at hev
    | ret => simp at hev
  · simp at hev

/-! ### Results -/
def resOf (tmps : Array Value) : Go.ResultVar → Go.Sem Value
  | .tmp t => pure (tmps.getD t Go.undef)
  | .cell a t => do Go.loadVar t (← Go.asAddr (tmps.getD a Go.undef))
theorem results_eq (fn : Go.Func) (tmps : Array Value) : Go.results fn tmps = (do let vs ← fn.results.mapM (resOf tmps); pure (if h : vs.size = 1 then vs[0] else .tuple vs)) := by
  refine congrArg (fun (f : Go.ResultVar → Go.Sem Value) => (do let vs ← fn.results.mapM f; pure (if h : vs.size = 1 then vs[0] else .tuple vs) : Go.Sem Value)) (?_ : _ = resOf tmps)
  funext r; cases r <;> rfl

theorem results_list {t : Tm} {a : Act} (s : Sim (CC P) B e h w) (ht : TR e nt t a) : ∀ {rs : List Go.ResultVar} {ars : List ARes} {vs : List V}, compRes P rs = some ars → evRes t h ars = some vs →
    ∃ us, (rs.mapM (resOf a.tmps)).run P w = .ok us w ∧ VRL e vs us
  | [], ars, vs, hc, hev => by
    simp [compRes] at hc; subst hc
    simp [evRes] at hev; subst hev
    exact ⟨[], by simp, .nil⟩
  | .tmp d :: rs, ars, vs, hc, hev => by
    unfold compRes at hc
    obtain ⟨xs, hxs, rfl⟩ := Option.map_eq_some_iff.1 hc
    unfold evRes at hev
    obtain ⟨ws, hws, hev⟩ := Option.bind_eq_some_iff.1 hev
    cases hev
    obtain ⟨us, h1, h2⟩ := results_list s ht hxs hws
    refine ⟨a.tmps.getD d Go.undef :: us, ?_, .cons _ _ _ _ (ht.get d) h2⟩
    rw [List.mapM_cons]
    simp [Go.Sem.run_bind, resOf, h1, Go.Result.andThen]
  | .cell x ty :: rs, ars, vs, hc, hev => by
    unfold compRes at hc
    obtain ⟨n, hn, hc⟩ := Option.bind_eq_some_iff.1 hc
    obtain ⟨g, hg, hc⟩ := Option.bind_eq_some_iff.1 hc
    split at hc
    · rename_i hgn
      obtain ⟨xs, hxs, rfl⟩ := Option.map_eq_some_iff.1 hc
      unfold evRes at hev
      split at hev
      · rename_i b r f hx
        obtain ⟨cs, hcs, hev⟩ := Option.bind_eq_some_iff.1 hev
        obtain ⟨v, hv, hev⟩ := Option.bind_eq_some_iff.1 hev
        obtain ⟨ws, hws, hev⟩ := Option.bind_eq_some_iff.1 hev
        cases hev
        obtain ⟨us, h1, h2⟩ := results_list s ht hxs hws
        have hp := ht.get x
        rw [hx] at hp
        obtain ⟨l, hl, hu⟩ := hp.p_inv
        obtain ⟨u, hrun, hvu⟩ := loadVar_sound (P := P) s hn hg hgn hl hcs hv
        refine ⟨u :: us, ?_, .cons _ _ _ _ hvu h2⟩
        rw [List.mapM_cons]
        simp [Go.Sem.run_bind, resOf, hu, Go.asAddr, hrun, h1, Go.Result.andThen]
      · simp at hev
    · simp at hc

theorem results_sound {t : Tm} {a : Act} (s : Sim (CC P) B e h w) (ht : TR e nt t a) {fn : Go.Func} {ars : List ARes} {vs : List V} (hc : compRes P fn.results.toList = some ars) (hev : evRes t h ars = some vs) :
    ∃ u, (Go.results fn a.tmps).run P w = .ok u w ∧ VR e (resV vs) u := by
  obtain ⟨us, h1, h2⟩ := results_list s ht hc hev
  have h3 : (fn.results.mapM (resOf a.tmps)).run P w = .ok us.toArray w := by
    rw [Array.mapM_eq_mapM_toList]
    simp [Go.Sem.run_bind, h1, Go.Result.andThen]
  cases h2 with
  | nil =>
    refine ⟨.tuple #[], ?_, .tup _ _ .nil⟩
    rw [results_eq, Go.Sem.run_bind]; simp only [h3, Go.Result.andThen]; rfl
  | cons v u vs' us' hv hvs =>
    cases hvs with
    | nil =>
      refine ⟨u, ?_, hv⟩
      rw [results_eq, Go.Sem.run_bind]; simp only [h3, Go.Result.andThen]; rfl
    | cons v2 u2 vs'' us'' hv2 hvs =>
      refine ⟨.tuple (u :: u2 :: us'').toArray, ?_, .tup _ _ (.cons _ _ _ _ hv (.cons _ _ _ _ hv2 hvs))⟩
      rw [results_eq, Go.Sem.run_bind]; simp only [h3, Go.Result.andThen]
      have hne : (u :: u2 :: us'').toArray.size ≠ 1 := by simp
      rw [dif_neg hne]; rfl

/-! ### Functions -/
theorem leaves_sound {F : Fence} {n : Nat} {fn : Go.Func} {a : Act} {t : Tm} {ars : List ARes} {vs : List V} (hc : compRes P fn.results.toList = some ars) (ht : TR e' nt t a) (hev : evRes t h' ars = some vs) :
    ∀ (rs : List Nat) (w' : World), Stp (CC P) B e h w e' h' w' → DefOk w.heap.size e' h' w' (rs.map fun r => { target := .collected r, args := #[] }) rs →
      Go.LeavesInM F n P fn a.tmps (fun E w'' => ∃ u, E = .returned u ∧ CallPost P B e h w (resV vs) h' u w'') (rs.map fun r => { target := .collected r, args := #[] }) .returning w'
  | [], w', st, hd => by
    obtain ⟨u, h1, h2⟩ := results_sound st.sim ht hc hev
    exact ⟨u, h1, u, rfl, e', h2, st⟩
  | r :: rs, w', st, hd => by
    obtain ⟨h1, h2, h3, h4⟩ := hd.at_ r (by simp)
    refine ⟨by simp, .inl ⟨r, _, rfl, Go.run_takeDeferred h1, ?_⟩⟩
    refine leaves_sound hc ht hev rs _ (st.aside h3 h4 _) ⟨rfl, (List.nodup_cons.1 hd.nd).2, fun q hq => ?_⟩
    obtain ⟨k1, k2, k3, k4⟩ := hd.at_ q (by simp [hq])
    have hne : q ≠ r := fun hh => (List.nodup_cons.1 hd.nd).1 (hh ▸ hq)
    exact ⟨by rw [Go.World.putObj_heap_other hne]; exact k1, by rw [Go.World.putObj_size]; exact k2, k3, k4⟩

theorem args_sound : ∀ {args : List V} {cargs : List Value} (i : Nat), VRL e args cargs → ∀ n, VR e ((Tm.args args i).v n) (if n < i then Go.undef else cargs.getD (n - i) Go.undef)
  | [], _, i, hv, n => by
    cases hv
    have : (Tm.args [] i).v n = .un := by simp [Tm.args, Tm.v, Tr.get]
    rw [this]
    split
    · exact VR.un
    · simpa using VR.un
  | v :: vs, cargs, i, hv, n => by
    cases hv with
    | cons _ u _ us h1 h2 =>
      simp only [Tm.args, Tm.v_st]
      by_cases hn : n = i
      · subst hn; simpa using h1
      · rw [if_neg hn]
        have := args_sound (i + 1) h2 n
        by_cases hlt : n < i
        · rw [if_pos (by omega)] at this; rw [if_pos hlt]; exact this
        · rw [if_neg (by omega)] at this; rw [if_neg hlt]
          have he : n - i = (n - (i + 1)) + 1 := by omega
          rw [he]; simpa using this

theorem fn_sound {R : RunT} (hR : RunOk P R) (hD : DrawSound P R) (k : Nat) {f : Nat} {fn : Go.Func} {af : AFunc} (hf : P.funcs[f]? = some fn) (hc : compF P fn = some af) {args : List V} {v : V} (hev : evFn R (fun b s => iter b k s) af args h = some (v, h'))
    {cargs : Array Value} {F : Fence} (n : Nat) (hv : VRL e args cargs.toList) (s : Sim (CC P) B e h w) (hF : wideF F) :
    InvPost F n P (CallPost P B e h w v h') ((Go.callFunc f cargs).run P w) ∧ ∀ w, (Go.callFunc f cargs).run P w = .ok (.enter f cargs) w := by
  unfold compF at hc
  obtain ⟨c, hb, hc⟩ := Option.bind_eq_some_iff.1 hc
  obtain ⟨ac, hac, hc⟩ := Option.bind_eq_some_iff.1 hc
  obtain ⟨ars, hars, hc⟩ := Option.bind_eq_some_iff.1 hc
  split at hc
  · simp at hc
  · rename_i hname
    simp at hc; subst hc
    have hent : ∀ w, (Go.callFunc f cargs).run P w = .ok (.enter f cargs) w := fun w => by
      have hn : fn.name ≠ "runtime.NumGoroutine" := by simpa using hname
      simp [Go.callFunc, Go.Sem.run_bind, hf, hn, hb, Go.Result.andThen]
    refine ⟨?_, hent⟩
    rw [hent]
    simp only [InvPost]
    unfold evFn at hev
    split at hev
    · rename_i hlen
      obtain ⟨⟨x, t1, h1⟩, hev1, hev⟩ := Option.bind_eq_some_iff.1 hev
      have hFp : wideF F.plain := hF
      have hsz : cargs.size ≤ fn.ntmps := by have := hv.length; simp at this hlen; omega
      have ht0 : TR e fn.ntmps (Tm.args args 0) { tmps := cargs ++ Array.replicate (fn.ntmps - cargs.size) Go.undef, defers := [] } := by
        refine ⟨by simp; omega, fun q => ?_⟩
        have := args_sound 0 hv q
        simp only [Nat.not_lt_zero, if_false, Nat.sub_zero] at this
        refine (congrArg (VR e _) ?_).mp this
        simp only [Array.getD_eq_getD_getElem?, Array.getElem?_append, List.getD_eq_getElem?_getD, Array.getElem?_toList]
        by_cases hq : q < cargs.size
        · rw [if_pos hq]
        · rw [if_neg hq, Array.getElem?_eq_none (by omega)]
          by_cases hq2 : q - cargs.size < fn.ntmps - cargs.size
          · simp [Array.getElem?_replicate, hq2]
          · simp [Array.getElem?_replicate, hq2]
      have main : Go.CallsIn F.plain n P f cargs w fun E w'' => ∃ u, E = .returned u ∧ CallPost P B e h w v h' u w'' := by
        refine Go.callsIn_of_wp_marks hf hb (hF.1 _) ?_ rfl
        refine Go.wpIn_mono (evA_sound (N := w.heap.size) hR hD k hFp c hac hev1 rfl (Nat.le_refl _) s ht0 (rs := []) ⟨rfl, List.nodup_nil, fun _ h => by simp at h⟩) fun E a1 w1 hp => ?_
        obtain ⟨hE, e1, rs1, ht1, hs1, hd1⟩ := hp
        have fin : ∀ {vs : List V}, evRes t1 h1 ars = some vs → v = resV vs → h' = h1 → Go.LeavesInM F.plain n P fn a1.tmps (fun E w'' => ∃ u, E = .returned u ∧ CallPost P B e h w v h' u w'') a1.defers .returning w1 := by
          intro vs hvs hv' hh'
          subst hv'; subst hh'
          have heq := hd1.eq
          rw [heq]
          exact leaves_sound hars ht1 hvs rs1 w1 hs1 ⟨rfl, hd1.nd, hd1.at_⟩
        cases x with
        | normal =>
          cases E <;> simp [ExR] at hE
          simp only at hev
          obtain ⟨vs, hvs, hev⟩ := Option.bind_eq_some_iff.1 hev
          simp at hev
          exact fin hvs hev.1.symm hev.2.symm
        | ret =>
          cases E <;> simp [ExR] at hE
          simp only at hev
          obtain ⟨vs, hvs, hev⟩ := Option.bind_eq_some_iff.1 hev
          simp at hev
          exact fin hvs hev.1.symm hev.2.symm
        | exit i => simp at hev
      exact main
    · simp at hev

/-! ### The runner -/
/-- What is taken for granted of a function: as the model has it. -/
def ExtOk (P : Program) (pr : Prog) : Prop := ∀ (f : Nat) (g : List V → H → Option (V × H)), pr.ext f = some g → ∀ (args : List V) (h : H) (v : V) (h' : H), g args h = some (v, h') →
  ∀ (B : Nat) (e : Emb) (w : World) (cargs : Array Value) (F : Fence) (n : Nat), VRL e args cargs.toList → Sim (CC P) B e h w → wideF F → InvPost F n P (CallPost P B e h w v h') ((Go.callFunc f cargs).run P w)

structure ProgOk (P : Program) (pr : Prog) : Prop where
  fn : ∀ f af, pr.fn f = some af → ∃ fn, P.funcs[f]? = some fn ∧ compF P fn = some af
  ext : ExtOk P pr
  draw : ∀ R, RunOk P R → DrawSound P R

theorem run_sound {pr : Prog} (hp : ProgOk P pr) : ∀ n, RunOk P (runN pr n)
  | 0 => fun c args h v h' hev => by simp [runN] at hev
  | n + 1 => fun c args h v h' hev B e w cargs F m hv s hF => by
    have hR := run_sound hp n
    have hD := hp.draw _ hR
    simp only [runN] at hev
    cases c with
    | fn f =>
      simp only [evCal] at hev
      split at hev
      · rename_i g hg
        split at hev
        · simp at hev
        · rename_i hyl
          exact ⟨hp.ext f g hg args h v h' hev B e w cargs F m hv s hF, fun hh => absurd hh hyl⟩
      · split at hev
        · rename_i af haf
          obtain ⟨fn, hf, hc⟩ := hp.fn f af haf
          obtain ⟨h1, h2⟩ := fn_sound hR hD n hf hc hev m hv s hF
          exact ⟨h1, fun _ => h2⟩
        · simp at hev
    | yl l =>
      simp only [evCal] at hev
      intro loc hloc
      split at hev
      · rename_i L hL
        exact round_sound hR hD n hL hev m hv s hF hloc
      · simp at hev

end Am

/- AmDraw1: what an operation's answer hangs on: its operands; by its kind, the heap. -/
namespace Am
set_option linter.unusedVariables false
set_option linter.unusedSimpArgs false
open Go (IntKind BinOp UnOp Value Program TypeId TypeDesc Operand Oper Code Tmp World Addr Obj Act Fence)

theorem ev_tmp {t t' : Tm} {x : AOpd} (h : ∀ n ∈ x.tmp, t.v n = t'.v n) : t.ev x = t'.ev x := by
  cases x with
  | t n => exact h n (by simp [AOpd.tmp])
  | c v => rfl
  | fn f => rfl
theorem ev_tmps {t t' : Tm} {xs : List AOpd} (h : ∀ n ∈ xs.flatMap AOpd.tmp, t.v n = t'.v n) : xs.map t.ev = xs.map t'.ev :=
  List.map_congr_left fun x hx => ev_tmp fun n hn => h n (List.mem_flatMap.2 ⟨x, hx, hn⟩)
theorem ev_opt {t t' : Tm} {x : Option AOpd} (h : ∀ n ∈ optT x, t.v n = t'.v n) : x.map t.ev = x.map t'.ev := by
  cases x with
  | none => rfl
  | some x => simp [ev_tmp h]

theorem ev_congr {o : AOp} {t t' : Tm} {h : H} (hh : ∀ n ∈ o.tmps, t.v n = t'.v n) : o.ev t.ev h = o.ev t'.ev h := by
  cases o <;> simp only [AOp.tmps, List.mem_append] at hh <;>
    first
    | (have h1 := ev_tmp hh; simp only [AOp.ev, h1]; done)
    | (have h1 := ev_tmp fun n hn => hh n (.inl hn); have h2 := ev_tmp fun n hn => hh n (.inr hn); simp only [AOp.ev, h1, h2]; done)
    | (have h1 := ev_tmp fun n hn => hh n (.inl (.inl hn)); have h2 := ev_tmp fun n hn => hh n (.inl (.inr hn)); have h3 := ev_tmp fun n hn => hh n (.inr hn); simp only [AOp.ev, h1, h2, h3]; done)
    | (have h1 := ev_tmp fun n hn => hh n (.inl hn); have h2 := ev_tmps fun n hn => hh n (.inr hn); simp only [AOp.ev, h1, h2]; done)
    | (have h1 := ev_tmp fun n hn => hh n (.inl (.inl hn)); have h2 := ev_opt fun n hn => hh n (.inl (.inr hn)); have h3 := ev_opt fun n hn => hh n (.inr hn); simp only [AOp.ev, h1, h2, h3]; done)
    | (have h1 := ev_tmp fun n hn => hh n (.inl (.inl (.inl hn))); have h2 := ev_opt fun n hn => hh n (.inl (.inl (.inr hn))); have h3 := ev_opt fun n hn => hh n (.inl (.inr hn)); have h4 := ev_opt fun n hn => hh n (.inr hn); simp only [AOp.ev, h1, h2, h3, h4]; done)
    | (have h1 := ev_tmps hh; simp only [AOp.ev, h1]; done)
    | rfl
    | skip
  case build z ps =>
    have : (ps.map fun p => (p.1, p.2.1, t.ev p.2.2)) = ps.map fun p => (p.1, p.2.1, t'.ev p.2.2) := List.map_congr_left fun p hp => by rw [ev_tmp fun n hn => hh n (List.mem_flatMap.2 ⟨p, hp, hn⟩)]
    simp only [AOp.ev, this]
  case mkSl z b len ps =>
    have : (ps.map fun p => (p.1, t.ev p.2)) = ps.map fun p => (p.1, t'.ev p.2) := List.map_congr_left fun p hp => by rw [ev_tmp fun n hn => hh n (List.mem_flatMap.2 ⟨p, hp, hn⟩)]
    simp only [AOp.ev, this]

theorem evOp_congr {R : RunT} {o : AAct} {t t' : Tm} {h : H} (hh : ∀ n ∈ o.tmps, t.v n = t'.v n) : evOp R o t h = evOp R o t' h := by
  cases o with
  | op x => exact ev_congr hh
  | call f xs =>
    simp only [AAct.tmps, List.mem_append] at hh
    have h1 := ev_tmp fun n hn => hh n (.inl hn)
    have h2 := ev_tmps fun n hn => hh n (.inr hn)
    simp only [evOp, h1, h2]
  | inv tbl x xs =>
    simp only [AAct.tmps, List.mem_append] at hh
    have h1 := ev_tmp fun n hn => hh n (.inl hn)
    have h2 := ev_tmps fun n hn => hh n (.inr hn)
    simp only [evOp, h1, h2]

/-- What only computes, looks at no heap. -/
theorem ev_pure {o : AOp} (hk : o.kind = .pure) {ρ : AOpd → V} {h g h' : H} {v : V} (hev : o.ev ρ h = some (v, h')) : h' = h ∧ o.ev ρ g = some (v, g) := by
  cases o <;> simp only [AOp.kind] at hk <;> first | (cases hk; done) | skip
  all_goals simp only [AOp.ev] at hev ⊢
  all_goals first
    | (cases hev; exact ⟨rfl, rfl⟩)
    | (obtain ⟨x, hx, hev⟩ := Option.bind_eq_some_iff.1 hev; cases hev; exact ⟨rfl, by rw [hx]; rfl⟩)
    | (split at hev <;> first
        | (cases hev; done)
        | (simp only [Option.some.injEq, Prod.mk.injEq] at hev; obtain ⟨rfl, rfl⟩ := hev; exact ⟨rfl, by simp [*]⟩)
        | (obtain ⟨x, hx, hev⟩ := Option.bind_eq_some_iff.1 hev; cases hev; exact ⟨rfl, by simp [*]⟩)
        | (obtain ⟨x, hx, hev⟩ := Option.bind_eq_some_iff.1 hev; obtain ⟨y, hy, hev⟩ := Option.bind_eq_some_iff.1 hev; cases hev; exact ⟨rfl, by simp [*]⟩)
        | (split at hev <;> first
            | (cases hev; done)
            | (simp only [Option.some.injEq, Prod.mk.injEq] at hev; obtain ⟨rfl, rfl⟩ := hev; exact ⟨rfl, by simp [*]⟩)
            | (obtain ⟨x, hx, hev⟩ := Option.bind_eq_some_iff.1 hev; cases hev; exact ⟨rfl, by simp [*]⟩)))
    | skip
  case bad => cases hev
  case lenV k x =>
    cases k with
    | map => cases hk
    | str => split at hev <;> simp_all
    | sl => split at hev <;> simp_all

/-- What looks at a heap, looks at its blocks. -/
theorem ev_read {o : AOp} (hk : o.kind = .read) {ρ : AOpd → V} {h h' : H} {v : V} (hev : o.ev ρ h = some (v, h')) (m : Nat) : h' = h ∧ o.ev ρ ⟨m, h.tr⟩ = some (v, ⟨m, h.tr⟩) := by
  have hg : ∀ b, H.get ⟨m, h.tr⟩ b = h.get b := fun _ => rfl
  have hrow : ∀ b r, H.row ⟨m, h.tr⟩ b r = h.row b r := fun _ _ => rfl
  have hrd : ∀ b r f n, H.rd ⟨m, h.tr⟩ b r f n = h.rd b r f n := fun _ _ _ _ => rfl
  have hko : ∀ b, H.kOf ⟨m, h.tr⟩ b = h.kOf b := fun _ => rfl
  have hbs : ∀ a n, H.bseg ⟨m, h.tr⟩ a n = h.bseg a n := fun _ _ => rfl
  cases o <;> simp only [AOp.kind] at hk <;> first | (cases hk; done) | skip
  case load n agg x =>
    simp only [AOp.ev, hrd] at hev ⊢
    split at hev
    · obtain ⟨x, hx, hev⟩ := Option.bind_eq_some_iff.1 hev; obtain ⟨y, hy, hev⟩ := Option.bind_eq_some_iff.1 hev; cases hev; exact ⟨rfl, by simp [*]⟩
    · cases hev
  case sliceL k x lo hi mx =>
    simp only [AOp.ev, hko] at hev ⊢
    split at hev
    · rename_i a len cap ex hx
      obtain ⟨u, hu, hev⟩ := Option.bind_eq_some_iff.1 hev
      obtain ⟨u2, hu2, hev⟩ := Option.bind_eq_some_iff.1 hev
      obtain ⟨u3, hu3, hev⟩ := Option.bind_eq_some_iff.1 hev
      split at hev
      · cases hev; exact ⟨rfl, by simp [*]⟩
      · split at hev
        · rename_i hc; cases hev; exact ⟨rfl, by simp [*]⟩
        · cases hev
    · cases hev
  case ia k x i =>
    simp only [AOp.ev, hko] at hev ⊢
    split at hev
    · split at hev
      · rename_i hc; cases hev; exact ⟨rfl, by simp [*]⟩
      · cases hev
    · cases hev
  case convBS x =>
    simp only [AOp.ev, hbs] at hev ⊢
    split at hev
    · obtain ⟨x, hx, hev⟩ := Option.bind_eq_some_iff.1 hev; cases hev; exact ⟨rfl, by simp [*]⟩
    · cases hev
  case lk kk z ok mm k =>
    simp only [AOp.ev, hg] at hev ⊢
    split at hev
    · cases hev; exact ⟨rfl, by simp [*]⟩
    · split at hev
      · obtain ⟨x, hx, hev⟩ := Option.bind_eq_some_iff.1 hev
        split at hev <;> (cases hev; exact ⟨rfl, by simp [*]⟩)
      · cases hev
    · cases hev
  case lenV k x =>
    cases k with
    | map =>
      simp only [AOp.ev, hg] at hev ⊢
      split at hev <;> first | (cases hev; done) | skip
      all_goals simp_all
      all_goals (split at hev <;> simp_all)
    | str => cases hk
    | sl => cases hk

theorem H.push_inj {h : H} {x y : Blk} (hh : h.push x = h.push y) : x = y := by
  have := congrArg (fun g : H => g.get h.nx) hh
  simpa [H.get_push] using this

/-- What makes a block, makes it whatever lies there. -/
theorem ev_alloc {o : AOp} (hk : o.kind = .alloc) {ρ : AOpd → V} {h h' : H} {v : V} (hev : o.ev ρ h = some (v, h')) : ∃ blk, h' = h.push blk ∧ ∀ tr, o.ev ρ ⟨h.nx, tr⟩ = some (v, H.push ⟨h.nx, tr⟩ blk) := by
  cases o <;> simp only [AOp.kind] at hk <;> first | (cases hk; done) | skip
  all_goals simp only [AOp.ev] at hev ⊢
  all_goals first
    | (cases hev; exact ⟨_, rfl, fun _ => rfl⟩)
    | (split at hev <;> first
        | (cases hev; done)
        | (rename_i hc; cases hev; exact ⟨_, rfl, fun _ => by rw [if_neg hc]⟩)
        | (rename_i hc; cases hev; exact ⟨_, rfl, fun _ => by rw [if_pos hc]⟩)
        | (cases hev; exact ⟨_, rfl, fun _ => by simp [*]⟩))
    | skip
  case mkSl z b len ps =>
    obtain ⟨rs, hrs, hev⟩ := Option.bind_eq_some_iff.1 hev
    split at hev
    · rename_i hb
      obtain ⟨bs, hbs, hev⟩ := Option.bind_eq_some_iff.1 hev
      split at hev
      · rename_i hc; cases hev; exact ⟨_, rfl, fun _ => by rw [hrs]; simp only [Option.bind_some]; rw [if_pos hb, hbs]; simp only [Option.bind_some]; rw [if_pos hc]⟩
      · cases hev
    · split at hev
      · cases hev
      · rename_i hc; cases hev; exact ⟨_, rfl, fun _ => by simp [*]⟩
  case mkS z b bytes len cap =>
    split at hev
    · rename_i l c hl hc
      split at hev
      · rename_i hcond
        split at hev
        · split at hev
          · cases hev; exact ⟨_, rfl, fun _ => by simp [*]⟩
          · cases hev
        · cases hev; exact ⟨_, rfl, fun _ => by simp [*]⟩
      · cases hev
    · cases hev
  case lenV k x => cases k <;> cases hk

end Am

/- AmDraw2: the order that stands for all: what the check says, place by place; the run along it. -/
namespace Am
set_option linter.unusedVariables false
set_option linter.unusedSimpArgs false
open Go (IntKind BinOp UnOp Value Program TypeId TypeDesc Operand Oper Code Tmp World Addr Obj Act Fence)

/-! ### The run along the order -/
structure Trc (R : RunT) (as : List AOper) (t : Tm) (h : H) (hs : List H) (t' : Tm) (h' : H) (T : Nat → Tm) (G : Nat → H) (K : Nat → List H) (vv : Nat → V) : Prop where
  t0 : T 0 = t
  g0 : G 0 = h
  k0 : K 0 = hs
  st : ∀ p x, as[p]? = some x → stepD R x (T p) (G p) (K p) = some (vv p, G (p + 1))
  tt : ∀ p x, as[p]? = some x → T (p + 1) = (T p).pd x.dst (vv p)
  kk : ∀ p x, as[p]? = some x → K (p + 1) = behind x.op (G (p + 1)) (K p)
  te : T as.length = t'
  ge : G as.length = h'

theorem trace {R : RunT} : ∀ {as : List AOper} {t : Tm} {h : H} {hs : List H} {t' : Tm} {h' : H}, evOpsD R as t h hs = some (t', h') → ∃ T G K vv, Trc R as t h hs t' h' T G K vv
  | [], t, h, hs, t', h', hev => by
    simp [evOpsD] at hev
    obtain ⟨rfl, rfl⟩ := hev
    exact ⟨fun _ => t, fun _ => h, fun _ => hs, fun _ => .un, rfl, rfl, rfl, by simp, by simp, by simp, rfl, rfl⟩
  | x :: xs, t, h, hs, t', h', hev => by
    unfold evOpsD at hev
    obtain ⟨⟨v, h1⟩, hst, hev⟩ := Option.bind_eq_some_iff.1 hev
    obtain ⟨T, G, K, vv, htr⟩ := trace hev
    refine ⟨fun p => match p with | 0 => t | p + 1 => T p, fun p => match p with | 0 => h | p + 1 => G p, fun p => match p with | 0 => hs | p + 1 => K p, fun p => match p with | 0 => v | p + 1 => vv p, rfl, rfl, rfl, ?_, ?_, ?_, htr.te, htr.ge⟩
    · intro p y hy
      cases p with
      | zero => simp at hy; subst hy; simp only [htr.g0]; exact hst
      | succ p => exact htr.st p y (by simpa using hy)
    · intro p y hy
      cases p with
      | zero => simp at hy; subst hy; exact htr.t0
      | succ p => exact htr.tt p y (by simpa using hy)
    · intro p y hy
      cases p with
      | zero => simp at hy; subst hy; simp only [htr.k0, htr.g0]
      | succ p => exact htr.kk p y (by simpa using hy)

/-! ### The order -/
/-- The places of the effects ahead, the last one first. -/
def epos (L : List (Nat × AOper)) : Nat → List Nat
  | 0 => []
  | p + 1 => match L[p]? with
    | some q => if q.2.op.kind == .eff then p :: epos L p else epos L p
    | none => epos L p
def idx (L : List (Nat × AOper)) (p : Nat) : Nat := ((L[p]?).map (·.1)).getD 0

theorem chk_at {ops : Array Oper} {bs : List Nat} {L : List (Nat × AOper)} (h : chk ops bs [] [] L = true) : ∀ p, p ≤ L.length → chk ops bs (L.take p).reverse ((epos L p).map (idx L)) (L.drop p) = true
  | 0, _ => by simpa [epos] using h
  | p + 1, hp => by
    have ih := chk_at h p (by omega)
    have hlt : p < L.length := by omega
    rw [List.drop_eq_getElem_cons hlt] at ih
    generalize hq : L[p] = q at ih
    obtain ⟨i, x⟩ := q
    have hq' : L[p]? = some (i, x) := by rw [List.getElem?_eq_getElem hlt, hq]
    unfold chk at ih
    have ih := (Bool.and_eq_true_iff.1 ih).2
    have e1 : (L.take (p + 1)).reverse = (i, x) :: (L.take p).reverse := by rw [List.take_succ_eq_append_getElem hlt, hq]; simp
    rw [e1]
    have e2 : (epos L (p + 1)).map (idx L) = if x.op.kind == .eff then i :: (epos L p).map (idx L) else (epos L p).map (idx L) := by
      simp only [epos, hq']
      split
      · simp [idx, hq']
      · rfl
    rw [e2]
    exact ih

theorem mem_ahead {L : List (Nat × AOper)} {p : Nat} {q : Nat × AOper} : q ∈ (L.take p).reverse ↔ ∃ k, k < p ∧ L[k]? = some q := by
  rw [List.mem_reverse, List.mem_iff_getElem?]
  constructor
  · rintro ⟨k, hk⟩
    rw [List.getElem?_take] at hk
    split at hk
    · exact ⟨k, ‹_›, hk⟩
    · cases hk
  · rintro ⟨k, hk, hq⟩
    exact ⟨k, by rw [List.getElem?_take, if_pos hk]; exact hq⟩

structure OrdOk (ops : Array Oper) (bs : List Nat) (L : List (Nat × AOper)) : Prop where
  ok : ∀ {p i : Nat} {x : AOper}, L[p]? = some (i, x) → ∃ o, ops[i]? = some o
  new : ∀ {p i : Nat} {x : AOper} {q j : Nat} {y : AOper}, L[p]? = some (i, x) → L[q]? = some (j, y) → q < p → i ≠ j
  pre : ∀ {p i : Nat} {x : AOper} {j : Nat}, L[p]? = some (i, x) → (bs.getD i 0).testBit j = true → ∃ q y, q < p ∧ L[q]? = some (j, y)
  eff : ∀ {p i : Nat} {x : AOper} {q j : Nat} {y : AOper}, L[p]? = some (i, x) → x.op.kind = .eff → q < p → L[q]? = some (j, y) → (bs.getD i 0).testBit j = true
  ap : ∀ {p i : Nat} {x : AOper} {q j : Nat} {y : AOper} {o o' : Oper}, L[p]? = some (i, x) → q < p → L[q]? = some (j, y) → ops[i]? = some o → ops[j]? = some o' → (bs.getD i 0).testBit j = true ∨ apartD ops o' o y x = true
  look : ∀ {p i : Nat} {x : AOper} {q : Nat}, L[p]? = some (i, x) → (epos L p)[x.look]? = some q → (bs.getD i 0).testBit (idx L q) = true

theorem ordOk {ops : Array Oper} {bs : List Nat} {L : List (Nat × AOper)} (h : chk ops bs [] [] L = true) : OrdOk ops bs L := by
  have key : ∀ {p i : Nat} {x : AOper}, L[p]? = some (i, x) → ∃ o, ops[i]? = some o ∧ ((L.take p).reverse.map (·.1)).contains i = false ∧ bs.getD i 0 < 2 ^ ops.size ∧
      (∀ j, j < ops.size → (bs.getD i 0).testBit j = true → j ∈ (L.take p).reverse.map (·.1)) ∧
      (∀ q ∈ (L.take p).reverse, (bs.getD i 0).testBit q.1 = true ∨ (x.op.kind ≠ .eff ∧ ∃ o', ops[q.1]? = some o' ∧ apartD ops o' o q.2 x = true)) ∧
      (∀ e, ((epos L p).map (idx L))[x.look]? = some e → (bs.getD i 0).testBit e = true) := by
    intro p i x hp
    have hlt : p < L.length := (List.getElem?_eq_some_iff.1 hp).1
    have h1 := chk_at h p (by omega)
    rw [List.drop_eq_getElem_cons hlt, (List.getElem?_eq_some_iff.1 hp).2] at h1
    unfold chk at h1
    have h1 := (Bool.and_eq_true_iff.1 h1).1
    simp only at h1
    split at h1
    · rename_i o ho
      simp only [Bool.and_eq_true, List.all_eq_true, List.mem_range, decide_eq_true_eq] at h1
      obtain ⟨⟨⟨⟨h2, h3⟩, h4⟩, h5⟩, h6⟩ := h1
      refine ⟨o, ho, by simpa using h2, h3, fun j hj hb => ?_, fun q hq => ?_, fun e he => ?_⟩
      · have := h4 j hj
        rw [hb] at this
        simpa using this
      · have := h5 q hq
        rcases Bool.or_eq_true_iff.1 this with h7 | h7
        · exact .inl h7
        · refine .inr ?_
          obtain ⟨h8, h9⟩ := Bool.and_eq_true_iff.1 h7
          refine ⟨by simpa using h8, ?_⟩
          split at h9
          · exact ⟨_, ‹_›, h9⟩
          · cases h9
      · rw [he] at h6; exact h6
    · cases h1
  refine ⟨fun hp => let ⟨o, ho, _⟩ := key hp; ⟨o, ho⟩, fun hp hq hlt heq => ?_, fun {_ _ _ j} hp hb => ?_, fun hp hk hlt hq => ?_, fun hp hlt hq ho ho' => ?_, fun hp hq => ?_⟩
  · obtain ⟨o, ho, h1, _⟩ := key hp
    have hm := mem_ahead.2 ⟨_, hlt, hq⟩
    have : _ ∈ (L.take _).reverse.map (·.1) := List.mem_map_of_mem (f := (·.1)) hm
    rw [heq] at h1
    simp only [List.contains_eq_mem, decide_eq_false_iff_not] at h1
    exact h1 this
  · obtain ⟨o, ho, h1, h2, h3, _⟩ := key hp
    have hj : j < ops.size := by
      refine Decidable.byContradiction fun hn => ?_
      rw [Nat.testBit_lt_two_pow (Nat.lt_of_lt_of_le h2 (Nat.pow_le_pow_right (by omega) (Nat.le_of_not_lt hn)))] at hb
      cases hb
    obtain ⟨q, hq, hqe⟩ := List.mem_map.1 (h3 _ hj hb)
    obtain ⟨k, hk, hk2⟩ := mem_ahead.1 hq
    obtain ⟨j', y⟩ := q
    simp at hqe; subst hqe
    exact ⟨k, y, hk, hk2⟩
  · obtain ⟨o, ho, h1, h2, h3, h4, _⟩ := key hp
    rcases h4 _ (mem_ahead.2 ⟨_, hlt, hq⟩) with h5 | ⟨h5, _⟩
    · exact h5
    · exact absurd hk h5
  · obtain ⟨o2, ho2, h1, h2, h3, h4, _⟩ := key hp
    rw [ho] at ho2; cases ho2
    rcases h4 _ (mem_ahead.2 ⟨_, hlt, hq⟩) with h5 | ⟨_, o3, h6, h7⟩
    · exact .inl h5
    · rw [ho'] at h6; cases h6; exact .inr h7
  · obtain ⟨o, ho, h1, h2, h3, h4, h5⟩ := key hp
    exact h5 _ (by rw [List.getElem?_map, hq]; rfl)

/-! ### What has been done is closed -/
def Pre (ops : Array Oper) (D : Nat → Prop) (i : Nat) : Prop := ∀ o, ops[i]? = some o → ∀ e ∈ o.after, Go.Region.binds .any e = true → D e.on

theorem bits_mem {D : Nat → Prop} {acc : List Nat} (hacc : ∀ i j, D i → (acc.getD i 0).testBit j = true → D j) : ∀ {es : List Go.Edge}, (∀ e ∈ es, Go.Region.binds .any e = true → D e.on) → ∀ j, (bits acc es).testBit j = true → D j
  | [], _, j, hb => by simp [bits] at hb
  | e :: es, he, j, hb => by
    unfold bits at hb
    split at hb
    · rename_i hbi
      simp only [Nat.testBit_or, Bool.or_eq_true, Nat.testBit_two_pow, decide_eq_true_eq] at hb
      have hon := he e (by simp) hbi
      rcases hb with (rfl | h2) | h2
      · exact hon
      · exact hacc _ _ hon h2
      · exact bits_mem hacc (fun e' h' => he e' (List.mem_cons_of_mem _ h')) j h2
    · exact bits_mem hacc (fun e' h' => he e' (List.mem_cons_of_mem _ h')) j hb

theorem bef_mem {ops : Array Oper} {D : Nat → Prop} (hD : ∀ i, D i → Pre ops D i) : ∀ {os : List Oper} {acc : List Nat}, ops.toList.drop acc.length = os → (∀ i j, Pre ops D i → (acc.getD i 0).testBit j = true → D j) →
    ∀ i j, Pre ops D i → ((bef os acc).getD i 0).testBit j = true → D j
  | [], acc, _, hacc, i, j, hp, hb => hacc i j hp hb
  | o :: os, acc, hos, hacc, i, j, hp, hb => by
    unfold bef at hb
    have ho : ops[acc.length]? = some o := by
      have := congrArg (fun l => l[0]?) hos
      simpa using this
    refine bef_mem hD (os := os) (acc := acc ++ [bits acc o.after.toList]) ?_ ?_ i j hp hb
    · have := congrArg (List.drop 1) hos
      simpa [List.drop_drop] using this
    · intro i j hp hb
      rw [List.getD_eq_getElem?_getD, List.getElem?_append] at hb
      split at hb
      · exact hacc i j hp (by rw [List.getD_eq_getElem?_getD]; exact hb)
      · by_cases hi : i = acc.length
        · subst hi
          simp at hb
          exact bits_mem (fun i j hi hb => hacc i j (hD i hi) hb) (fun e he hbi => hp o ho e (by simpa using he) hbi) j hb
        · rw [List.getElem?_eq_none (by simp; omega)] at hb
          simp at hb

theorem befores_mem {ops : Array Oper} {D : Nat → Prop} (hD : ∀ i, D i → Pre ops D i) {i j : Nat} (hp : Pre ops D i) (hb : ((befores ops).getD i 0).testBit j = true) : D j :=
  bef_mem hD (os := ops.toList) (acc := []) (by simp) (by simp) i j hp hb

theorem bits_edge {acc : List Nat} : ∀ {es : List Go.Edge} {e : Go.Edge}, e ∈ es → Go.Region.binds .any e = true → (bits acc es).testBit e.on = true
  | [], _, h, _ => by simp at h
  | e' :: es, e, h, hb => by
    unfold bits
    rcases List.mem_cons.1 h with rfl | h
    · rw [if_pos hb]; simp [Nat.testBit_or]
    · split
      · simp [Nat.testBit_or, bits_edge h hb]
      · exact bits_edge h hb

theorem bef_edge {ops : Array Oper} : ∀ {os : List Oper} {acc : List Nat}, ops.toList.drop acc.length = os → (∀ i o e, i < acc.length → ops[i]? = some o → e ∈ o.after → Go.Region.binds .any e = true → (acc.getD i 0).testBit e.on = true) →
    ∀ i o e, ops[i]? = some o → e ∈ o.after → Go.Region.binds .any e = true → ((bef os acc).getD i 0).testBit e.on = true
  | [], acc, hos, hacc, i, o, e, ho, he, hb => by
    have hlen : ops.size ≤ acc.length := by simpa using hos
    have : i < ops.size := (Array.getElem?_eq_some_iff.1 ho).1
    exact hacc i o e (by omega) ho he hb
  | o' :: os, acc, hos, hacc, i, o, e, ho, he, hb => by
    unfold bef
    have ho' : ops[acc.length]? = some o' := by
      have := congrArg (fun l => l[0]?) hos
      simpa using this
    refine bef_edge (os := os) (acc := acc ++ [bits acc o'.after.toList]) ?_ ?_ i o e ho he hb
    · have := congrArg (List.drop 1) hos
      simpa [List.drop_drop] using this
    · intro i o e hi ho he hb
      rw [List.getD_eq_getElem?_getD, List.getElem?_append]
      split
      · rename_i hlt
        have := hacc i o e hlt ho he hb
        rwa [List.getD_eq_getElem?_getD] at this
      · have hie : i = acc.length := by simp at hi; omega
        subst hie
        rw [ho'] at ho; cases ho
        simp
        exact bits_edge (by simpa using he) hb

theorem befores_edge {ops : Array Oper} {i : Nat} {o : Oper} {e : Go.Edge} (ho : ops[i]? = some o) (he : e ∈ o.after) (hb : Go.Region.binds .any e = true) : ((befores ops).getD i 0).testBit e.on = true :=
  bef_edge (os := ops.toList) (acc := []) (by simp) (by simp) i o e ho he hb

end Am

/- AmDraw3: a region that draws its order: whatever the order, it comes to what the one order comes to. -/
namespace Am
set_option linter.unusedVariables false
set_option linter.unusedSimpArgs false
open Go (IntKind BinOp UnOp Value Program TypeId TypeDesc Operand Oper Code Tmp World Addr Obj Act Fence)

variable {P : Program} {B nt : Nat}

/-! ### Part of an embedding -/
def res (ι : Emb) (m : Nat) : Emb := fun b => if b < m then ι b else none
theorem res_le {ι : Emb} {m m' : Nat} (h : m ≤ m') : (res ι m).le (res ι m') := fun b l e => by
  unfold res at *
  split at e
  · rw [if_pos (by omega)]; exact e
  · cases e
theorem res_mono {ι ι' : Emb} (h : ι.le ι') (m : Nat) : (res ι m).le (res ι' m) := fun b l e => by
  unfold res at *
  split at e
  · rw [if_pos ‹_›]; exact h _ _ e
  · cases e
theorem res_lt {ι : Emb} {m b : Nat} {l : Loc} (h : res ι m b = some l) : b < m ∧ ι b = some l := by
  unfold res at h
  split at h
  · exact ⟨‹_›, h⟩
  · cases h

theorem Sim.raise {C : Cx} {ι : Emb} {m m' : Nat} {h : H} {w : World} (s : Sim C B (res ι m) h w) (hm : m ≤ m') : Sim C B (res ι m') ⟨m', h.tr⟩ w := by
  have hg : ∀ b, H.get ⟨m', h.tr⟩ b = h.get b := fun _ => rfl
  refine ⟨fun b x hb => ?_, fun b b' x x' l l' hb hb' ho hne hl hl' => ?_, fun b l hl => (res_lt hl).1, s.low, fun b l hb => res_le hm _ _ (s.gl b l hb), fun b l x hl hb => s.tab b l x hl hb⟩
  · obtain ⟨l, hl, hr, h1, h2⟩ := s.blk b x hb
    exact ⟨l, res_le hm _ _ hl, hr.mono (res_le hm), h1, h2⟩
  · obtain ⟨l0, hl0, _⟩ := s.blk b x hb
    obtain ⟨l1, hl1, _⟩ := s.blk b' x' hb'
    have e0 := res_le hm _ _ hl0
    have e1 := res_le hm _ _ hl1
    rw [hl] at e0; cases e0
    rw [hl'] at e1; cases e1
    exact s.inj b b' x x' _ _ hb hb' ho hne hl0 hl1

/-- A block that lies there since, taken over. -/
theorem Stp.adopt {C : Cx} {e0 e : Emb} {h0 g : H} {w0 w : World} {x : Blk} {l : Loc} (hB : B ≤ w0.heap.size) (st : Stp C B e0 h0 w0 e g w) (hx : BlkR C (e.add g.nx l) x l w) (hge : w0.heap.size ≤ l.cb) (hlt : l.cb < w.heap.size) (himg : ¬ Img e g l.cb) :
    Stp C B e0 h0 w0 (e.add g.nx l) (g.push x) w := by
  have s := st.sim
  have hle : e.le (e.add g.nx l) := Emb.le_add l s.fresh
  have old : ∀ b y m, g.get b = some y → e.add g.nx l b = some m → e b = some m := by
    intro b y m hb hm
    have hne : b ≠ g.nx := Nat.ne_of_lt (s.lt hb)
    simpa [Emb.add, hne] using hm
  have gp : ∀ b y, (g.push x).get b = some y → (b = g.nx ∧ y = x) ∨ (b ≠ g.nx ∧ g.get b = some y) := by
    intro b y hb
    rw [H.get_push] at hb
    by_cases hbn : b = g.nx
    · rw [if_pos hbn] at hb; exact .inl ⟨hbn, (Option.some.inj hb).symm⟩
    · rw [if_neg hbn] at hb; exact .inr ⟨hbn, hb⟩
  refine ⟨Emb.le_trans st.le hle, ⟨fun b y hb => ?_, ?_, ?_, s.low, fun b l hb => hle _ _ (s.gl b l hb), s.tab.of fun b m y hm hb => ?_⟩, fun c ho => ?_, fun c ho => ?_, st.keep, st.grow, Nat.le_trans st.nx (Nat.le_succ _), st.sky⟩
  · rcases gp b y hb with ⟨rfl, rfl⟩ | ⟨hne, hb'⟩
    · exact ⟨l, Emb.add_same _ _ _, hx, hlt, fun _ => Nat.le_trans hB hge⟩
    · obtain ⟨m, hm, hr, hlt, ho⟩ := s.blk b y hb'
      exact ⟨m, hle _ _ hm, hr.mono hle, hlt, ho⟩
  · intro b b' y y' m m' hb hb' ho hne hm hm'
    rcases gp b y hb with ⟨rfl, rfl⟩ | ⟨hne1, hb1⟩ <;> rcases gp b' y' hb' with ⟨rfl, rfl⟩ | ⟨hne2, hb2⟩
    · exact absurd rfl hne
    · rw [Emb.add_same] at hm; cases hm
      have := old b' y' m' hb2 hm'
      exact fun hh => himg ⟨b', y', m', hb2, this, hh.symm⟩
    · rw [Emb.add_same] at hm'; cases hm'
      have := old b y m hb1 hm
      exact fun hh => himg ⟨b, y, m, hb1, this, hh⟩
    · exact s.inj b b' y y' m m' hb1 hb2 ho hne (old _ _ _ hb1 hm) (old _ _ _ hb2 hm')
  · intro b m hm
    unfold Emb.add at hm
    show b < g.nx + 1
    by_cases hbn : b = g.nx
    · omega
    · rw [if_neg hbn] at hm; have := s.dom b m hm; omega
  · rcases gp b y hb with ⟨rfl, rfl⟩ | ⟨hne, hb1⟩
    · exact absurd (s.gl_lt hm) (Nat.lt_irrefl _)
    · exact ⟨hb1, rfl⟩
  · obtain ⟨b, y, m, hb, hy, hm, rfl⟩ := ho
    rcases gp b y hb with ⟨rfl, rfl⟩ | ⟨hne, hb'⟩
    · rw [Emb.add_same] at hm; cases hm; exact .inl hge
    · exact st.own _ ⟨b, y, m, hb', hy, old _ _ _ hb' hm, rfl⟩
  · obtain ⟨b, y, m, hb, hm, rfl⟩ := ho
    rcases gp b y hb with ⟨rfl, rfl⟩ | ⟨hne, hb'⟩
    · rw [Emb.add_same] at hm; cases hm; exact .inl hge
    · exact st.img _ ⟨b, y, m, hb', old _ _ _ hb' hm, rfl⟩

/-! ### Part of the temporaries -/
def cutT (t : Tm) : List Nat → Tm
  | [] => .e
  | d :: ds => (cutT t ds).st d (t.v d)
theorem cutT_v (t : Tm) : ∀ (ds : List Nat) (d : Nat), (cutT t ds).v d = if d ∈ ds then t.v d else .un
  | [], d => by simp [cutT, Tm.v, Tr.get]
  | d' :: ds, d => by
    simp only [cutT, Tm.v_st, cutT_v t ds d, List.mem_cons]
    by_cases h : d = d'
    · simp [h]
    · simp [h]
def cutV (a : Act) (ds : List Nat) : Operand → Value
  | .tmp d => if d ∈ ds then a.eval (.tmp d) else Go.undef
  | y => a.eval y

theorem cut_opd {e : Emb} {t : Tm} {a : Act} {ds : List Nat} {gl : Nat → Option Loc} (hgl : ∀ b l, gl b = some l → e b = some l) (hg : ∀ g, g < 4096 → ∃ l, gl g = some l ∧ l.cb = g ∧ l.sh = 0) (h : ∀ d ∈ ds, VR e (t.v d) (a.tmps.getD d Go.undef)) : OpdR e (cutT t ds) (cutV a ds) := by
  intro o x hx
  cases o with
  | tmp d =>
    simp [opd] at hx; subst hx
    simp only [Tm.ev, cutT_v, cutV]
    by_cases hd : d ∈ ds
    · rw [if_pos hd, if_pos hd]; exact h d hd
    · rw [if_neg hd, if_neg hd]; exact VR.un
  | const v =>
    simp only [opd] at hx
    obtain ⟨y, hy, rfl⟩ := Option.map_eq_some_iff.1 hx
    exact ofValue_sound hy
  | func f => simp [opd] at hx; subst hx; exact .fn f [] #[] .nil
  | global g =>
    simp only [opd] at hx
    split at hx
    · rename_i hlt
      cases hx
      obtain ⟨l, h1, h2, h3⟩ := hg g hlt
      have := VR.p (e := e) g 0 0 l (hgl _ _ h1)
      rw [h2, h3, show 0 + 0 * l.k + 0 = 0 by simp] at this
      exact this
    · cases hx

theorem compOp_noSelect {o : Oper} {x : AOp} (h : compOp P o = some x) : ∀ cs b, o.op ≠ .select cs b := by
  intro cs b hc
  simp [compOp, hc] at h
theorem compAct_noSelect {o : Oper} {x : AAct} (h : compAct P o = some x) : ∀ cs b, o.op ≠ .select cs b := by
  intro cs b hc
  unfold compAct at h
  split at h
  · rename_i y hy
    unfold compAct0 at hy
    simp only [callOf, invOf, hc] at hy
    obtain ⟨y, hy, _⟩ := Option.map_eq_some_iff.1 hy
    exact compOp_noSelect hy cs b hc
  · simp [isDefer, hc] at h

theorem cut_exec {o : Oper} {a : Act} {ds : List Nat} (hs : ∀ cs b, o.op ≠ .select cs b) {ops : Array Oper} (h : ∀ d ∈ o.looksAt ops, d ∈ ds) : Go.execOp a.eval o = Go.execOp (cutV a ds) o :=
  Go.execOp_congr o hs fun x hx => by
    cases x with
    | tmp d =>
      have : d ∈ ds := h d (List.mem_append_left _ (List.mem_filterMap.2 ⟨.tmp d, by simpa using hx, rfl⟩))
      simp [cutV, this]
    | _ => rfl

theorem wanted_at {t : Tm} {a : Act} {ops : Array Oper} {o : Oper} {x : AOper} {k : Nat} (hsz : a.tmps.size = nt) (hv : ∀ d want, x.guard = some (d, want) → ∃ e, VR e (t.v d) (a.tmps.getD d Go.undef)) (hx : compOper P nt ops k o = some x) :
    Go.Region.wanted o (Go.yielded ops a.tmps) = x.wanted t := by
  unfold compOper at hx
  split at hx
  · obtain ⟨op, _, hx⟩ := Option.bind_eq_some_iff.1 hx
    unfold Go.Region.wanted AOper.wanted
    split at hx
    · rename_i hg
      simp at hx; subst hx
      simp [hg]
    · rename_i j want hg
      obtain ⟨d, hd, hx⟩ := Option.bind_eq_some_iff.1 hx
      split at hx
      · rename_i hlt
        simp at hx; subst hx
        simp only [hg]
        obtain ⟨e, hget⟩ := hv d want rfl
        have hsz : d < a.tmps.size := by rw [hsz]; exact hlt
        simp only [Go.yielded, hd, Option.bind_some]
        rw [Array.getD_eq_getD_getElem?] at hget
        rw [Array.getElem?_eq_getElem hsz] at hget ⊢
        simp only [Option.getD_some] at hget
        generalize a.tmps[d] = u at *
        generalize t.v d = x at *
        cases hget <;> simp
      · simp at hx
  · simp at hx

end Am

/- AmDraw4: the invariant of a region that draws its order. -/
namespace Am
set_option linter.unusedVariables false
set_option linter.unusedSimpArgs false
open Go (IntKind BinOp UnOp Value Program TypeId TypeDesc Operand Oper Code Tmp World Addr Obj Act Fence)

variable {P : Program} {B nt : Nat} {R : RunT} {ops : Array Oper} {L : List (Nat × AOper)} {T : Nat → Tm} {G : Nat → H} {K : Nat → List H} {vv : Nat → V}

def Made (T : Nat → Tm) (p : Nat) (x : AOper) : Prop := x.op.kind = .alloc ∧ x.wanted (T p) = true

/-- The one order's run. -/
structure Can (P : Program) (nt : Nat) (R : RunT) (ops : Array Oper) (L : List (Nat × AOper)) (T : Nat → Tm) (G : Nat → H) (K : Nat → List H) (vv : Nat → V) : Prop where
  ord : OrdOk ops (befores ops) L
  all : ∀ i : Nat, i < ops.size → ∃ (p : Nat) (x : AOper), L[p]? = some (i, x)
  comp : ∀ {p i : Nat} {x : AOper} {o : Oper}, L[p]? = some (i, x) → ops[i]? = some o → ∃ k, compOper P nt ops k o = some x
  st : ∀ {p i : Nat} {x : AOper}, L[p]? = some (i, x) → stepD R x (T p) (G p) (K p) = some (vv p, G (p + 1))
  tt : ∀ {p i : Nat} {x : AOper}, L[p]? = some (i, x) → T (p + 1) = (T p).pd x.dst (vv p)
  kk : ∀ p, p ≤ L.length → K p = (epos L p).map (fun q => G (q + 1)) ++ [G 0]

namespace Can
theorem uniq (can : Can P nt R ops L T G K vv) {p q i : Nat} {x y : AOper} (hp : L[p]? = some (i, x)) (hq : L[q]? = some (i, y)) : p = q ∧ x = y := by
  have : p = q := by
    rcases Nat.lt_trichotomy p q with h | h | h
    · exact absurd rfl (can.ord.new hq hp h)
    · exact h
    · exact absurd rfl (can.ord.new hp hq h)
  subst this
  rw [hp] at hq; cases hq
  exact ⟨rfl, rfl⟩

theorem unw (can : Can P nt R ops L T G K vv) {p i : Nat} {x : AOper} (hp : L[p]? = some (i, x)) (hw : x.wanted (T p) = false) : vv p = .un ∧ G (p + 1) = G p := by
  have h := can.st hp
  unfold stepD at h
  rw [if_neg (by simp [hw])] at h
  simp at h
  exact ⟨h.1.symm, h.2.symm⟩

theorem wan (can : Can P nt R ops L T G K vv) {p i : Nat} {x : AOper} (hp : L[p]? = some (i, x)) (hw : x.wanted (T p) = true) :
    evOp R x.op (T p) (G p) = some (vv p, G (p + 1)) ∧ looked x (T p).ev (vv p) (K p) = true ∧ (G p).nx ≤ (G (p + 1)).nx := by
  have h := can.st hp
  unfold stepD at h
  rw [if_pos hw] at h
  obtain ⟨⟨v, g⟩, h1, h2⟩ := Option.bind_eq_some_iff.1 h
  split at h2
  · rename_i hc
    simp only [Bool.and_eq_true] at hc
    cases h2
    exact ⟨h1, hc.1, Nat.le_of_ble_eq_true hc.2⟩
  · cases h2

theorem mono1 (can : Can P nt R ops L T G K vv) {p i : Nat} {x : AOper} (hp : L[p]? = some (i, x)) : (G p).nx ≤ (G (p + 1)).nx := by
  cases hw : x.wanted (T p) with
  | true => exact (can.wan hp hw).2.2
  | false => rw [(can.unw hp hw).2]; exact Nat.le_refl _

theorem mono (can : Can P nt R ops L T G K vv) {p q : Nat} (hpq : p ≤ q) (hq : q ≤ L.length) : (G p).nx ≤ (G q).nx := by
  induction hpq with
  | refl => exact Nat.le_refl _
  | @step m hm ih =>
    have hlt : m < L.length := hq
    obtain ⟨⟨i, x⟩, hx⟩ : ∃ q, L[m]? = some q := ⟨L[m], List.getElem?_eq_getElem hlt⟩
    exact Nat.le_trans (ih (by omega)) (can.mono1 hx)

theorem op_of (_ : Can P nt R ops L T G K vv) {p i : Nat} {x : AOper} (_ : L[p]? = some (i, x)) (hk : x.op.kind ≠ .eff) : ∃ ao, x.op = .op ao ∧ ao.kind = x.op.kind := by
  cases hx : x.op with
  | op ao => exact ⟨ao, rfl, rfl⟩
  | call f as => rw [hx] at hk; exact absurd rfl hk
  | inv tbl y as => rw [hx] at hk; exact absurd rfl hk

theorem still (can : Can P nt R ops L T G K vv) {p i : Nat} {x : AOper} (hp : L[p]? = some (i, x)) (hk : x.op.kind ≠ .eff) (hm : ¬ Made T p x) : G (p + 1) = G p := by
  cases hw : x.wanted (T p) with
  | false => exact (can.unw hp hw).2
  | true =>
    obtain ⟨ao, hao, hkk⟩ := can.op_of hp hk
    have h1 := (can.wan hp hw).1
    rw [hao] at h1
    simp only [evOp] at h1
    cases hkind : ao.kind with
    | pure => exact (ev_pure hkind (g := G p) h1).1
    | read => exact (ev_read hkind h1 0).1
    | alloc => exact absurd ⟨by rw [← hkk, hkind], hw⟩ hm
    | eff => rw [← hkk] at hk; exact absurd hkind hk

theorem madeAt (can : Can P nt R ops L T G K vv) {p i : Nat} {x : AOper} (hp : L[p]? = some (i, x)) (hm : Made T p x) : ∃ ao blk, x.op = .op ao ∧ ao.kind = .alloc ∧ G (p + 1) = (G p).push blk ∧ ∀ tr, ao.ev (T p).ev ⟨(G p).nx, tr⟩ = some (vv p, H.push ⟨(G p).nx, tr⟩ blk) := by
  have hk : x.op.kind ≠ .eff := by rw [hm.1]; decide
  obtain ⟨ao, hao, hkk⟩ := can.op_of hp hk
  have h1 := (can.wan hp hm.2).1
  rw [hao] at h1
  obtain ⟨blk, h2, h3⟩ := ev_alloc (by rw [hkk]; exact hm.1) h1
  exact ⟨ao, blk, hao, by rw [hkk]; exact hm.1, h2, h3⟩

theorem madeNx (can : Can P nt R ops L T G K vv) {p i : Nat} {x : AOper} (hp : L[p]? = some (i, x)) (hm : Made T p x) : (G (p + 1)).nx = (G p).nx + 1 := by
  obtain ⟨_, blk, _, _, h, _⟩ := can.madeAt hp hm
  rw [h]; rfl
end Can

/-- Where it stands, whatever has been done: 'c': behind the last effect. -/
structure Inv (P : Program) (B nt : Nat) (ops : Array Oper) (L : List (Nat × AOper)) (T : Nat → Tm) (G : Nat → H) (e0 : Emb) (h0 : H) (w0 : World) (ds : List Go.Deferred) (listed : Array Bool) (a : Act) (w : World) (c : Nat) (ι : Emb) : Prop where
  lsz : listed.size = ops.size
  clo : ∀ i, listed.getD i false = true → Pre ops (fun j => listed.getD j false = true) i
  cle : c ≤ L.length
  cut : ∀ {p i : Nat} {x : AOper}, L[p]? = some (i, x) → p < c → listed.getD i false = true
  eff : ∀ {p i : Nat} {x : AOper}, L[p]? = some (i, x) → x.op.kind = .eff → listed.getD i false = true → p < c
  cin : c = 0 ∨ ∃ (p i : Nat) (x : AOper), c = p + 1 ∧ L[p]? = some (i, x) ∧ x.op.kind = .eff
  stp : Stp (CC P) B e0 h0 w0 (res ι (G c).nx) (G c) w
  dom : ∀ {b : Nat} {l : Loc}, ι b = some l → b < (G c).nx ∨ ∃ (p i : Nat) (x : AOper), c ≤ p ∧ L[p]? = some (i, x) ∧ listed.getD i false = true ∧ Made T p x ∧ b = (G p).nx
  pend : ∀ {p i : Nat} {x : AOper}, c ≤ p → L[p]? = some (i, x) → listed.getD i false = true → Made T p x → ∃ l blk, ι (G p).nx = some l ∧ G (p + 1) = (G p).push blk ∧
    BlkR (CC P) (res ι (G (p + 1)).nx) blk l w ∧ w0.heap.size ≤ l.cb ∧ l.cb < w.heap.size ∧ ¬ Img (res ι (G c).nx) (G c) l.cb
  dis : ∀ {p i : Nat} {x : AOper} {p' i' : Nat} {x' : AOper} {l l' : Loc}, c ≤ p → L[p]? = some (i, x) → listed.getD i false = true → Made T p x → c ≤ p' → L[p']? = some (i', x') → listed.getD i' false = true → Made T p' x' →
    ι (G p).nx = some l → ι (G p').nx = some l' → p ≠ p' → l.cb ≠ l'.cb
  slot : ∀ d, ∃ m, m ≤ L.length ∧ (m = 0 ∨ ∃ (p i : Nat) (x : AOper), m = p + 1 ∧ L[p]? = some (i, x) ∧ listed.getD i false = true ∧ x.dst = some d) ∧
    (∀ {q j : Nat} {y : AOper}, m ≤ q → L[q]? = some (j, y) → listed.getD j false = true → y.dst ≠ some d) ∧ VR (res ι (G m).nx) ((T m).v d) (a.tmps.getD d Go.undef)
  tsz : a.tmps.size = nt
  dfr : a.defers = ds

variable {e0 : Emb} {h0 : H} {w0 : World} {ds : List Go.Deferred} {listed : Array Bool} {a : Act} {w : World} {c : Nat} {ι : Emb}

theorem adopt_all (can : Can P nt R ops L T G K vv) (hB : B ≤ w0.heap.size) (inv : Inv P B nt ops L T G e0 h0 w0 ds listed a w c ι) {m : Nat} (hc : c ≤ m) (hm : m ≤ L.length)
    (hall : ∀ {q i : Nat} {x : AOper}, q < m → L[q]? = some (i, x) → listed.getD i false = true) :
    Stp (CC P) B e0 h0 w0 (res ι (G m).nx) (G m) w ∧ ∀ {p i : Nat} {x : AOper} {l : Loc}, m ≤ p → L[p]? = some (i, x) → listed.getD i false = true → Made T p x → ι (G p).nx = some l → ¬ Img (res ι (G m).nx) (G m) l.cb := by
  induction hc with
  | refl =>
    refine ⟨inv.stp, fun hp hx hd hmd hl => ?_⟩
    obtain ⟨l', blk, h1, _, _, _, _, h2⟩ := inv.pend hp hx hd hmd
    rw [hl] at h1; cases h1
    exact h2
  | @step m hc ih =>
    have hcm : c ≤ m := hc
    obtain ⟨st, himg⟩ := ih (by omega) (fun hq hx => hall (by omega) hx)
    have hlt : m < L.length := hm
    obtain ⟨⟨i, x⟩, hx⟩ : ∃ q, L[m]? = some q := ⟨L[m], List.getElem?_eq_getElem hlt⟩
    have hD := hall (by omega) hx
    have hk : x.op.kind ≠ .eff := fun hk => by have := inv.eff hx hk hD; omega
    by_cases hmd : Made T m x
    · obtain ⟨l, blk, h1, h2, h3, h4, h5, _⟩ := inv.pend hc hx hD hmd
      have himgm := himg (Nat.le_refl _) hx hD hmd h1
      have hnx := can.madeNx hx hmd
      have hadd : res ι (G (m + 1)).nx = (res ι (G m).nx).add (G m).nx l := by
        funext b
        simp only [res, Emb.add]
        rw [hnx]
        by_cases hb : b = (G m).nx
        · subst hb; rw [if_pos (by omega), if_pos rfl, h1]
        · by_cases hb2 : b < (G m).nx
          · rw [if_pos (by omega), if_neg hb, if_pos hb2]
          · rw [if_neg (by omega), if_neg hb, if_neg hb2]
      rw [hadd] at h3 ⊢
      rw [h2]
      refine ⟨Stp.adopt hB st h3 h4 h5 himgm, fun hp hy hd hmd' hl hi => ?_⟩
      obtain ⟨b, y, m', hb, hm', hcb⟩ := hi
      rw [H.get_push] at hb
      by_cases hbn : b = (G m).nx
      · subst hbn
        rw [Emb.add_same] at hm'; cases hm'
        exact inv.dis hc hx hD hmd (by omega) hy hd hmd' h1 hl (by omega) hcb
      · rw [if_neg hbn] at hb
        refine himg (by omega) hy hd hmd' hl ⟨b, y, m', hb, ?_, hcb⟩
        simpa [Emb.add, hbn] using hm'
    · have hst := can.still hx hk hmd
      rw [hst]
      exact ⟨st, fun hp => himg (by omega)⟩

/-! ### One operation more -/
theorem listed_set {listed : Array Bool} {i : Nat} (hi : i < listed.size) (j : Nat) : (listed.setIfInBounds i true).getD j false = true ↔ j = i ∨ listed.getD j false = true := by
  simp only [Array.getD_eq_getD_getElem?, Array.getElem?_setIfInBounds]
  by_cases h : i = j
  · subst h; simp [hi]
  · rw [if_neg h]
    constructor
    · exact .inr
    · rintro (h1 | h1)
      · exact absurd h1.symm h
      · exact h1

theorem put_get {a : Act} {d : Option Nat} {u : Value} (hd : dstOk nt d = true) (hs : a.tmps.size = nt) (d' : Nat) : (a.put d u).tmps.getD d' Go.undef = if d = some d' then u else a.tmps.getD d' Go.undef := by
  cases d with
  | none => simp [Act.put]
  | some d =>
    have hlt : d < nt := by simpa [dstOk] using hd
    simp only [Act.put, Array.getD_eq_getD_getElem?, Array.getElem?_setIfInBounds]
    by_cases h : d = d'
    · subst h; rw [if_pos rfl, if_pos (by omega)]; simp
    · rw [if_neg h]; simp [h]

/-- What is known of an operation whose turn may be now. -/
structure Turn (P : Program) (nt : Nat) (ops : Array Oper) (L : List (Nat × AOper)) (T : Nat → Tm) (G : Nat → H) (listed : Array Bool) (a : Act) (c : Nat) (ι : Emb) (i p : Nat) (x : AOper) (o : Oper) : Prop where
  hp : L[p]? = some (i, x)
  ho : ops[i]? = some o
  nd : ¬ listed.getD i false = true
  pre : Pre ops (fun j => listed.getD j false = true) i
  bit : ∀ j, ((befores ops).getD i 0).testBit j = true → listed.getD j false = true
  cp : c ≤ p
  lt : p < L.length
  lti : i < listed.size
  dst : dstOk nt x.dst = true
  dsto : x.dst = o.dst
  act : compAct P o = some x.op
  free : ∀ {q j : Nat} {y : AOper}, p < q → L[q]? = some (j, y) → listed.getD j false = true → ∀ d, x.dst = some d → y.dst ≠ some d
  sl : ∀ d ∈ looksOf ops o x, VR (res ι (G p).nx) ((T p).v d) (a.tmps.getD d Go.undef)
  want : Go.Region.wanted o (Go.yielded ops a.tmps) = x.wanted (T p)

theorem turn (can : Can P nt R ops L T G K vv) (inv : Inv P B nt ops L T G e0 h0 w0 ds listed a w c ι) {i : Nat} (hi : i ∈ Go.Region.ready .any ops listed) : ∃ p x o, Turn P nt ops L T G listed a c ι i p x o := by
  obtain ⟨hun, o, ho, hed⟩ := Go.mem_ready.1 hi
  have hisz : i < ops.size := (Array.getElem?_eq_some_iff.1 ho).1
  obtain ⟨p, x, hp⟩ := can.all i hisz
  have hlti : i < listed.size := by rw [inv.lsz]; exact hisz
  have hnd : ¬ listed.getD i false = true := by
    simp only [Array.getD_eq_getD_getElem?, Array.getElem?_eq_getElem hlti, Option.getD_some] at hun ⊢
    rw [hun]; simp
  have hpre : Pre ops (fun j => listed.getD j false = true) i := fun o' ho' e he hb => by
    rw [ho] at ho'; cases ho'; exact hed e he hb
  have hbit : ∀ j, ((befores ops).getD i 0).testBit j = true → listed.getD j false = true := fun j hb => befores_mem inv.clo hpre hb
  have hcp : c ≤ p := Nat.le_of_not_lt fun hlt => hnd (inv.cut hp hlt)
  have hlt : p < L.length := (List.getElem?_eq_some_iff.1 hp).1
  obtain ⟨k, hk⟩ := can.comp hp ho
  obtain ⟨hd1, hd2, hd3, _⟩ := compOper_parts hk
  have later : ∀ {q j : Nat} {y : AOper}, p < q → L[q]? = some (j, y) → listed.getD j false = true → ∀ o', ops[j]? = some o' → apartD ops o o' x y = true := fun {q j y} hpq hq hD o' ho' => by
    rcases can.ord.ap hq hpq hp ho' ho with h1 | h1
    · exact absurd (befores_mem inv.clo (inv.clo j hD) h1) hnd
    · exact h1
  have earlier : ∀ {q j : Nat} {y : AOper}, q < p → L[q]? = some (j, y) → ¬ listed.getD j false = true → ∀ o', ops[j]? = some o' → apartD ops o' o y x = true := fun {q j y} hpq hq hD o' ho' => by
    rcases can.ord.ap hp hpq hq ho ho' with h1 | h1
    · exact absurd (hbit _ h1) hD
    · exact h1
  have hsl : ∀ d ∈ looksOf ops o x, VR (res ι (G p).nx) ((T p).v d) (a.tmps.getD d Go.undef) := fun d hd => by
    obtain ⟨m, hm, h1, h2, h3⟩ := inv.slot d
    have hmp : m ≤ p := by
      rcases h1 with rfl | ⟨q, j, y, rfl, hq, hD, hy⟩
      · exact Nat.zero_le _
      · rcases Nat.lt_trichotomy q p with h4 | h4 | h4
        · exact h4
        · subst h4; rw [hp] at hq; cases hq; exact absurd hD hnd
        · obtain ⟨o', ho'⟩ := can.ord.ok hq
          have hap := later h4 hq hD o' ho'
          simp only [apartD, Bool.and_eq_true, Bool.not_eq_true'] at hap
          have := hap.1.2
          rw [hy] at this
          simp [dstIn] at this
          exact absurd hd this
    have hT : ∀ k, m ≤ k → k ≤ p → (T k).v d = (T m).v d := by
      intro k hk
      induction hk with
      | refl => intro _; rfl
      | @step k hk ih =>
        intro hkp
        have hkl : k < L.length := by omega
        obtain ⟨⟨j, y⟩, hq⟩ : ∃ q, L[k]? = some q := ⟨L[k], List.getElem?_eq_getElem hkl⟩
        rw [can.tt hq, ← ih (by omega)]
        have hne : y.dst ≠ some d := by
          by_cases hD : listed.getD j false = true
          · exact h2 hk hq hD
          · intro hy
            obtain ⟨o', ho'⟩ := can.ord.ok hq
            have hap := earlier (show k < p by omega) hq hD o' ho'
            simp only [apartD, Bool.and_eq_true, Bool.not_eq_true'] at hap
            have := hap.1.1
            rw [hy] at this
            simp [dstIn] at this
            exact this hd
        cases hyd : y.dst with
        | none => rfl
        | some d' =>
          simp only [Tm.pd, Tm.v_st]
          rw [if_neg (fun hh => hne (by rw [hyd, hh]))]
    rw [hT p hmp (Nat.le_refl _)]
    exact h3.mono (res_le (can.mono hmp (by omega)))
  refine ⟨p, x, o, hp, ho, hnd, hpre, hbit, hcp, hlt, hlti, by rw [hd2]; exact hd1, hd2, hd3, ?_, hsl, ?_⟩
  · intro q j y hpq hq hD d hxd hyd
    obtain ⟨o', ho'⟩ := can.ord.ok hq
    have hap := later hpq hq hD o' ho'
    simp only [apartD, Bool.and_eq_true, Bool.not_eq_true'] at hap
    have := hap.2
    rw [hxd, hyd] at this
    simp at this
  · refine wanted_at inv.tsz (fun d want hg => ⟨_, hsl d ?_⟩) hk
    simp [looksOf, hg]

section
variable {i p : Nat} {x : AOper} {o : Oper} {u : Value} {w' : World} {ι' : Emb}

theorem slots' (can : Can P nt R ops L T G K vv) (inv : Inv P B nt ops L T G e0 h0 w0 ds listed a w c ι) (tu : Turn P nt ops L T G listed a c ι i p x o) (hle : ι.le ι') (hv : VR (res ι' (G (p + 1)).nx) (vv p) u) :
    ∀ d, ∃ m, m ≤ L.length ∧ (m = 0 ∨ ∃ (p' i' : Nat) (x' : AOper), m = p' + 1 ∧ L[p']? = some (i', x') ∧ (listed.setIfInBounds i true).getD i' false = true ∧ x'.dst = some d) ∧
    (∀ {q j : Nat} {y : AOper}, m ≤ q → L[q]? = some (j, y) → (listed.setIfInBounds i true).getD j false = true → y.dst ≠ some d) ∧ VR (res ι' (G m).nx) ((T m).v d) ((a.put x.dst u).tmps.getD d Go.undef) := by
  intro d
  by_cases hd : x.dst = some d
  · refine ⟨p + 1, tu.lt, .inr ⟨p, i, x, rfl, tu.hp, (listed_set tu.lti _).2 (.inl rfl), hd⟩, fun hq hy hD => ?_, ?_⟩
    · rcases (listed_set tu.lti _).1 hD with rfl | hD
      · have := (can.uniq hy tu.hp).1; omega
      · exact tu.free (by omega) hy hD d hd
    · rw [put_get tu.dst inv.tsz, if_pos hd, can.tt tu.hp, hd]
      simp only [Tm.pd, Tm.v_st, if_true]
      exact hv
  · obtain ⟨m, h1, h2, h3, h4⟩ := inv.slot d
    refine ⟨m, h1, ?_, fun hq hy hD => ?_, ?_⟩
    · rcases h2 with h2 | ⟨q, j, y, h5, h6, h7, h8⟩
      · exact .inl h2
      · exact .inr ⟨q, j, y, h5, h6, (listed_set tu.lti _).2 (.inr h7), h8⟩
    · rcases (listed_set tu.lti _).1 hD with rfl | hD
      · rw [(can.uniq hy tu.hp).2]; exact hd
      · exact h3 hq hy hD
    · rw [put_get tu.dst inv.tsz, if_neg hd]
      exact h4.mono (res_mono hle _)

theorem clo' (inv : Inv P B nt ops L T G e0 h0 w0 ds listed a w c ι) (tu : Turn P nt ops L T G listed a c ι i p x o) : ∀ j, (listed.setIfInBounds i true).getD j false = true → Pre ops (fun j => (listed.setIfInBounds i true).getD j false = true) j := by
  intro j hj o' ho' e he hb
  refine (listed_set tu.lti _).2 (.inr ?_)
  rcases (listed_set tu.lti _).1 hj with rfl | hj
  · exact tu.pre o' ho' e he hb
  · exact inv.clo j hj o' ho' e he hb

theorem put_size {a : Act} {d : Option Nat} {u : Value} : (a.put d u).tmps.size = a.tmps.size := by cases d <;> simp [Act.put]

/-- No effect: the cut stays. -/
theorem inv_same (can : Can P nt R ops L T G K vv) (inv : Inv P B nt ops L T G e0 h0 w0 ds listed a w c ι) (tu : Turn P nt ops L T G listed a c ι i p x o) (hk : x.op.kind ≠ .eff) (hle : ι.le ι')
    (hres : res ι' (G c).nx = res ι (G c).nx) (hold : ∀ b, b < w.heap.size → w'.heap[b]? = w.heap[b]?) (hg : w.heap.size ≤ w'.heap.size) (hsky : Sky w w')
    (hdom : ∀ b l, ι' b = some l → ι b = some l ∨ (Made T p x ∧ b = (G p).nx))
    (hpend : Made T p x → ∃ l blk, ι' (G p).nx = some l ∧ G (p + 1) = (G p).push blk ∧ BlkR (CC P) (res ι' (G (p + 1)).nx) blk l w' ∧ l.cb = w.heap.size ∧ l.cb < w'.heap.size)
    (hv : VR (res ι' (G (p + 1)).nx) (vv p) u) : Inv P B nt ops L T G e0 h0 w0 ds (listed.setIfInBounds i true) (a.put x.dst u) w' c ι' := by
  have hD : ∀ {q j : Nat} {y : AOper}, L[q]? = some (j, y) → (listed.setIfInBounds i true).getD j false = true → (q = p ∧ j = i ∧ y = x) ∨ listed.getD j false = true := fun hq hd => by
    rcases (listed_set tu.lti _).1 hd with rfl | hd
    · exact .inl ⟨(can.uniq hq tu.hp).1, rfl, (can.uniq hq tu.hp).2⟩
    · exact .inr hd
  have hsz := inv.stp.grow
  refine ⟨by simp [inv.lsz], clo' inv tu, inv.cle, fun hq hc => (listed_set tu.lti _).2 (.inr (inv.cut hq hc)), fun hq he hd => ?_, inv.cin, ?_, fun {b l} hb => ?_, fun {q j y} hc hq hd hm => ?_, fun {q j y q' j' y' l l'} hc hq hd hm hc' hq' hd' hm' hl hl' hne => ?_, slots' can inv tu hle hv, by rw [put_size]; exact inv.tsz, by rw [put_defers]; exact inv.dfr⟩
  · rcases hD hq hd with ⟨rfl, rfl, rfl⟩ | hd
    · exact absurd he hk
    · exact inv.eff hq he hd
  · rw [hres]; exact inv.stp.trans (Stp.more inv.stp.sim hold hg hsky)
  · rcases hdom b l hb with h1 | ⟨h1, h2⟩
    · rcases inv.dom h1 with h2 | ⟨q, j, y, h3, h4, h5, h6⟩
      · exact .inl h2
      · exact .inr ⟨q, j, y, h3, h4, (listed_set tu.lti _).2 (.inr h5), h6⟩
    · exact .inr ⟨p, i, x, tu.cp, tu.hp, (listed_set tu.lti _).2 (.inl rfl), h1, h2⟩
  · rw [hres]
    rcases hD hq hd with ⟨rfl, rfl, rfl⟩ | hd
    · obtain ⟨l, blk, h1, h2, h3, h4, h5⟩ := hpend hm
      refine ⟨l, blk, h1, h2, h3, by omega, h5, fun hi => ?_⟩
      obtain ⟨b, z, m, hb, hm', hcb⟩ := hi
      obtain ⟨m2, hm2, _, hlt, _⟩ := inv.stp.sim.blk b z hb
      rw [hm'] at hm2; cases hm2
      omega
    · obtain ⟨l, blk, h1, h2, h3, h4, h5, h6⟩ := inv.pend hc hq hd hm
      exact ⟨l, blk, hle _ _ h1, h2, (h3.of_heap (hold _ h5)).mono (res_mono hle _), h4, by omega, h6⟩
  · have pold : ∀ {q j : Nat} {y : AOper} {l : Loc}, c ≤ q → L[q]? = some (j, y) → listed.getD j false = true → Made T q y → ι' (G q).nx = some l → ι (G q).nx = some l ∧ l.cb < w.heap.size := fun hc hq hd hm hl => by
      obtain ⟨l2, _, h1, _, _, _, h5, _⟩ := inv.pend hc hq hd hm
      have := hle _ _ h1
      rw [hl] at this; cases this
      exact ⟨h1, h5⟩
    rcases hD hq hd with ⟨rfl, rfl, rfl⟩ | hd0 <;> rcases hD hq' hd' with ⟨rfl, rfl, rfl⟩ | hd0'
    · exact absurd rfl hne
    · obtain ⟨l2, _, h1, _, _, h4, _⟩ := hpend hm
      rw [hl] at h1; cases h1
      have := (pold hc' hq' hd0' hm' hl').2
      omega
    · obtain ⟨l2, _, h1, _, _, h4, _⟩ := hpend hm'
      rw [hl'] at h1; cases h1
      have := (pold hc hq hd0 hm hl).2
      omega
    · exact inv.dis hc hq hd0 hm hc' hq' hd0' hm' (pold hc hq hd0 hm hl).1 (pold hc' hq' hd0' hm' hl').1 hne

/-- An effect: all that is ahead has been done; the cut is behind it. -/
theorem inv_cut (can : Can P nt R ops L T G K vv) (hB : B ≤ w0.heap.size) (inv : Inv P B nt ops L T G e0 h0 w0 ds listed a w c ι) (tu : Turn P nt ops L T G listed a c ι i p x o) (hk : x.op.kind = .eff) {e' : Emb}
    (st : Stp (CC P) B (res ι (G p).nx) (G p) w e' (G (p + 1)) w') (hv : VR e' (vv p) u) : ∃ ι', Inv P B nt ops L T G e0 h0 w0 ds (listed.setIfInBounds i true) (a.put x.dst u) w' (p + 1) ι' := by
  have hall : ∀ {q j : Nat} {y : AOper}, q < p → L[q]? = some (j, y) → listed.getD j false = true := fun hq hy => tu.bit _ (can.ord.eff tu.hp hk hq hy)
  obtain ⟨sta, himg⟩ := adopt_all can hB inv tu.cp (by have := tu.lt; omega) hall
  have hlt := tu.lt
  have hm1 := can.mono1 tu.hp
  have hle1 : ∀ {b : Nat} {l : Loc}, ι b = some l → b < (G p).nx ∨ ∃ (q j : Nat) (y : AOper), p + 1 ≤ q ∧ L[q]? = some (j, y) ∧ listed.getD j false = true ∧ Made T q y ∧ b = (G q).nx := fun {b l} hb => by
    rcases inv.dom hb with h1 | ⟨q, j, y, h1, h2, h3, h4, h5⟩
    · exact .inl (Nat.lt_of_lt_of_le h1 (can.mono tu.cp (by omega)))
    · rcases Nat.lt_trichotomy q p with h6 | h6 | h6
      · have h7 := can.madeNx h2 h4
        have h8 := can.mono (p := q + 1) (q := p) h6 (by omega)
        exact .inl (by omega)
      · subst h6
        rw [tu.hp] at h2; cases h2
        exact absurd h4.1 (by rw [hk]; decide)
      · exact .inr ⟨q, j, y, h6, h2, h3, h4, h5⟩
  let ι' : Emb := fun b => if b < (G (p + 1)).nx then e' b else ι b
  have hres : res ι' (G (p + 1)).nx = e' := by
    funext b
    show (if b < (G (p + 1)).nx then (if b < (G (p + 1)).nx then e' b else ι b) else none) = e' b
    split
    · rfl
    · rename_i hb
      cases he : e' b with
      | none => rfl
      | some l => exact absurd (st.sim.dom _ _ he) hb
  have hbig : ∀ b, (G (p + 1)).nx ≤ b → ι' b = ι b := fun b hb => by
    show (if b < (G (p + 1)).nx then e' b else ι b) = ι b
    rw [if_neg (by omega)]
  have hle : ι.le ι' := fun b l hb => by
    rcases hle1 hb with h1 | ⟨q, j, y, h1, h2, h3, h4, h5⟩
    · have : e' b = some l := st.le _ _ (by unfold res; rw [if_pos h1]; exact hb)
      show (if b < (G (p + 1)).nx then e' b else ι b) = some l
      rw [if_pos (by omega)]; exact this
    · rw [hbig b (by rw [h5]; exact can.mono h1 (by have := (List.getElem?_eq_some_iff.1 h2).1; omega))]
      exact hb
  have hpq : ∀ {q j : Nat} {y : AOper}, p + 1 ≤ q → L[q]? = some (j, y) → (listed.setIfInBounds i true).getD j false = true → listed.getD j false = true ∧ ι' (G q).nx = ι (G q).nx := fun {q j y} hq hy hd => by
    refine ⟨?_, hbig _ (can.mono hq (by have := (List.getElem?_eq_some_iff.1 hy).1; omega))⟩
    rcases (listed_set tu.lti _).1 hd with rfl | hd
    · have := (can.uniq hy tu.hp).1; omega
    · exact hd
  refine ⟨ι', by simp [inv.lsz], clo' inv tu, hlt, fun {q j y} hq hc => ?_, fun {q j y} hq he hd => ?_, .inr ⟨p, i, x, rfl, tu.hp, hk⟩, ?_, fun {b l} hb => ?_, fun {q j y} hc hq hd hm => ?_, fun {q j y q' j' y' l l'} hc hq hd hm hc' hq' hd' hm' hl hl' hne => ?_, slots' can inv tu hle (by rw [hres]; exact hv), by rw [put_size]; exact inv.tsz, by rw [put_defers]; exact inv.dfr⟩
  · refine (listed_set tu.lti _).2 ?_
    by_cases h1 : q < p
    · exact .inr (hall h1 hq)
    · have : q = p := by omega
      subst this
      rw [tu.hp] at hq; cases hq
      exact .inl rfl
  · rcases (listed_set tu.lti _).1 hd with rfl | hd
    · have := (can.uniq hq tu.hp).1; omega
    · have := inv.eff hq he hd; have := tu.cp; omega
  · rw [hres]; exact sta.trans st
  · by_cases hbl : b < (G (p + 1)).nx
    · exact .inl hbl
    · rw [hbig b (by omega)] at hb
      rcases hle1 hb with h1 | ⟨q, j, y, h1, h2, h3, h4, h5⟩
      · omega
      · exact .inr ⟨q, j, y, h1, h2, (listed_set tu.lti _).2 (.inr h3), h4, h5⟩
  · obtain ⟨hd0, hi0⟩ := hpq hc hq hd
    obtain ⟨l, blk, h1, h2, h3, h4, h5, h6⟩ := inv.pend (by have := tu.cp; omega) hq hd0 hm
    have himgq := himg (by omega) hq hd0 hm h1
    rw [hres]
    refine ⟨l, blk, by rw [hi0]; exact h1, h2, (h3.of_heap (st.keep _ h5 fun ho => himgq ho.img)).mono (res_mono hle _), h4, Nat.lt_of_lt_of_le h5 st.grow, fun hi => ?_⟩
    rcases st.img _ hi with h7 | h7
    · omega
    · exact himgq h7
  · obtain ⟨hd0, hi0⟩ := hpq hc hq hd
    obtain ⟨hd0', hi0'⟩ := hpq hc' hq' hd'
    rw [hi0] at hl; rw [hi0'] at hl'
    exact inv.dis (by have := tu.cp; omega) hq hd0 hm (by have := tu.cp; omega) hq' hd0' hm' hl hl' hne
end

end Am

/- AmDraw5: a region that draws its order comes to what the one order comes to. -/
namespace Am
set_option linter.unusedVariables false
set_option linter.unusedSimpArgs false
open Go (IntKind BinOp UnOp Value Program TypeId TypeDesc Operand Oper Code Tmp World Addr Obj Act Fence)

variable {P : Program} {B nt : Nat} {R : RunT} {ops : Array Oper} {L : List (Nat × AOper)} {T : Nat → Tm} {G : Nat → H} {K : Nat → List H} {vv : Nat → V}

/-! ### The places of the effects -/
theorem epos_at : ∀ {p q : Nat}, q ∈ epos L p → q < p ∧ ∃ (i : Nat) (x : AOper), L[q]? = some (i, x) ∧ x.op.kind = .eff
  | 0, q, h => by simp [epos] at h
  | p + 1, q, h => by
    unfold epos at h
    split at h
    · rename_i r hr
      obtain ⟨i, x⟩ := r
      split at h
      · rename_i hk
        rcases List.mem_cons.1 h with rfl | h
        · exact ⟨by omega, i, x, hr, by simpa using hk⟩
        · obtain ⟨h1, h2⟩ := epos_at h; exact ⟨by omega, h2⟩
      · obtain ⟨h1, h2⟩ := epos_at h; exact ⟨by omega, h2⟩
    · obtain ⟨h1, h2⟩ := epos_at h; exact ⟨by omega, h2⟩
theorem epos_mem : ∀ {p q i : Nat} {x : AOper}, q < p → L[q]? = some (i, x) → x.op.kind = .eff → q ∈ epos L p
  | 0, q, i, x, h, _, _ => by omega
  | p + 1, q, i, x, h, hq, hk => by
    unfold epos
    by_cases hqp : q = p
    · subst hqp
      rw [hq]
      simp [hk]
    · have := epos_mem (p := p) (by omega) hq hk
      split
      · split
        · exact List.mem_cons_of_mem _ this
        · exact this
      · exact this
theorem epos_desc : ∀ p, (epos L p).Pairwise (· > ·)
  | 0 => by simp [epos]
  | p + 1 => by
    unfold epos
    split
    · split
      · exact List.pairwise_cons.2 ⟨fun q hq => (epos_at hq).1, epos_desc p⟩
      · exact epos_desc p
    · exact epos_desc p

variable {e0 : Emb} {h0 : H} {w0 : World} {ds : List Go.Deferred} {listed : Array Bool} {a : Act} {w : World} {c : Nat} {ι : Emb}

theorem cut_mem (can : Can P nt R ops L T G K vv) (inv : Inv P B nt ops L T G e0 h0 w0 ds listed a w c ι) {i p : Nat} {x : AOper} {o : Oper} (tu : Turn P nt ops L T G listed a c ι i p x o) : G c ∈ (K p).take (x.look + 1) := by
  rw [can.kk p (Nat.le_of_lt tu.lt)]
  have hlook : ∀ q, (epos L p)[x.look]? = some q → q < c := fun q hq => by
    have hb := tu.bit _ (can.ord.look tu.hp hq)
    obtain ⟨h1, j, y, h2, h3⟩ := epos_at (List.mem_of_getElem? hq)
    simp only [idx, h2, Option.map_some, Option.getD_some] at hb
    exact inv.eff h2 h3 hb
  rcases inv.cin with rfl | ⟨q0, j, y, rfl, hq0, hk0⟩
  · have hlen : (epos L p).length ≤ x.look := Nat.le_of_not_lt fun hlt => by
      have := hlook _ (List.getElem?_eq_getElem hlt)
      omega
    rw [List.take_of_length_le (by simp; omega)]
    simp
  · obtain ⟨k, hk⟩ := List.mem_iff_getElem?.1 (epos_mem (p := p) tu.cp hq0 hk0)
    have hkl : k ≤ x.look := Nat.le_of_not_lt fun hlt => by
      obtain ⟨hk1, hk2⟩ := List.getElem?_eq_some_iff.1 hk
      have hl : x.look < (epos L p).length := by omega
      have h1 := hlook _ (List.getElem?_eq_getElem hl)
      have h2 := List.pairwise_iff_getElem.1 (epos_desc (L := L) p) x.look k hl hk1 hlt
      rw [hk2] at h2
      omega
    refine List.mem_of_getElem? (i := k) ?_
    rw [List.getElem?_take, if_pos (by omega), List.getElem?_append_left (by simp; exact (List.getElem?_eq_some_iff.1 hk).1), List.getElem?_map, hk]
    rfl

theorem compAct_op {o : Oper} {ao : AOp} (h : compAct P o = some (.op ao)) (hb : ao ≠ .bad) : compOp P o = some ao := by
  rcases compAct_cases h with h | h
  rotate_left
  · cases h; exact absurd rfl hb
  unfold compAct0 at h
  split at h
  · obtain ⟨f, _, h⟩ := Option.bind_eq_some_iff.1 h
    obtain ⟨xs, _, h⟩ := Option.map_eq_some_iff.1 h
    cases h
  · split at h
    · obtain ⟨f, _, h⟩ := Option.bind_eq_some_iff.1 h
      obtain ⟨xs, _, h⟩ := Option.map_eq_some_iff.1 h
      cases h
    · obtain ⟨y, hy, h⟩ := Option.map_eq_some_iff.1 h
      cases h; exact hy

theorem step_any (can : Can P nt R ops L T G K vv) (hR : RunOk P R) {F : Fence} (hF : wideF F) {n : Nat} (hB : B ≤ w0.heap.size) (inv : Inv P B nt ops L T G e0 h0 w0 ds listed a w c ι) {i : Nat} (hi : i ∈ Go.Region.ready .any ops listed)
    {K' : Act → World → Prop} {Q : Go.Exit → Act → World → Prop} (hk : ∀ a' w' c' ι', Inv P B nt ops L T G e0 h0 w0 ds (listed.setIfInBounds i true) a' w' c' ι' → K' a' w') : Go.wpOpIn F n P ops Q i K' a w := by
  obtain ⟨p, x, o, tu⟩ := turn can inv hi
  unfold Go.wpOpIn
  simp only [tu.ho]
  rw [tu.want]
  cases hw : x.wanted (T p) with
  | false =>
    rw [if_neg (by simp)]
    refine ⟨fun f _ => hF.1 f, ?_⟩
    obtain ⟨hvv, hst⟩ := can.unw tu.hp hw
    rw [← tu.dsto]
    by_cases heff : x.op.kind = .eff
    · have hall : ∀ {q j : Nat} {y : AOper}, q < p → L[q]? = some (j, y) → listed.getD j false = true := fun hq hy => tu.bit _ (can.ord.eff tu.hp heff hq hy)
      have sta := (adopt_all can hB inv tu.cp (Nat.le_of_lt tu.lt) hall).1
      obtain ⟨ι', hinv⟩ := inv_cut can hB inv tu heff (u := Go.undef) (e' := res ι (G p).nx) (w' := w) (by rw [hst]; exact Stp.refl sta.sim) (by rw [hvv]; exact VR.un)
      exact hk _ _ _ _ hinv
    · exact hk _ _ _ _ (inv_same can inv tu heff (Emb.le_refl ι) rfl (fun _ _ => rfl) (Nat.le_refl _) ⟨rfl, rfl, rfl⟩ (fun b l h => .inl h) (fun hm => absurd hm.2 (by simp [hw])) (by rw [hvv]; exact VR.un))
  | true =>
    rw [if_pos rfl]
    refine ⟨fun f _ => hF.1 f, ?_⟩
    rw [Go.Oper.semAt_eq _ _ _ (compAct_noDefer tu.act)]
    have hρ := cut_opd (inv.stp.sim.raise (can.mono tu.cp (Nat.le_of_lt tu.lt))).gl glOf_at tu.sl
    rw [cut_exec (compAct_noSelect tu.act) (ops := ops) (ds := looksOf ops o x) (fun d hd => by simp [looksOf, hd])]
    have htmp : ∀ d ∈ x.op.tmps, (T p).v d = (cutT (T p) (looksOf ops o x)).v d := fun d hd => by
      rw [cutT_v, if_pos (by simp [looksOf, hd])]
    obtain ⟨hev, hlk, _⟩ := can.wan tu.hp hw
    by_cases heff : x.op.kind = .eff
    · have hall : ∀ {q j : Nat} {y : AOper}, q < p → L[q]? = some (j, y) → listed.getD j false = true := fun hq hy => tu.bit _ (can.ord.eff tu.hp heff hq hy)
      have sta := (adopt_all can hB inv tu.cp (Nat.le_of_lt tu.lt) hall).1
      rw [evOp_congr htmp] at hev
      refine InvPost.upon hF.2.1 (act_sound hR tu.act sta.sim hρ hev (n - 1) hF) fun u w' ⟨e', hv, st⟩ => ?_
      obtain ⟨ι', hinv⟩ := inv_cut can hB inv tu heff st hv
      rw [tu.dsto] at hinv
      exact hk _ _ _ _ hinv
    · obtain ⟨ao, hao, hkk⟩ := can.op_of tu.hp heff
      have hco := compAct_op (hao ▸ tu.act) (fun hb => by rw [hao, hb] at hev; simp [evOp, AOp.ev] at hev)
      have hsim : Sim (CC P) B (res ι (G p).nx) ⟨(G p).nx, (G c).tr⟩ w := inv.stp.sim.raise (can.mono tu.cp (Nat.le_of_lt tu.lt))
      rw [hao] at hev htmp
      simp only [evOp] at hev
      have same : ∀ {v g' : _}, ao.kind ≠ .alloc → ao.kind ≠ .eff → ao.ev (T p).ev ⟨(G p).nx, (G c).tr⟩ = some (v, g') → v = vv p → o.uponIn F n P a K' Q ((Go.execOp (cutV a (looksOf ops o x)) o).run P w) := by
        intro v g' h1 h2 h3 hv
        subst hv
        rw [ev_congr htmp] at h3
        have hres := op_sound hco hsim hρ h3
        have hsame : ∃ u, (Go.execOp (cutV a (looksOf ops o x)) o).run P w = .ok (.value u) w ∧ VR (res ι (G p).nx) (vv p) u := by
          cases hkind : ao.kind with
          | pure => rw [hkind] at hres; exact hres.2
          | read => rw [hkind] at hres; exact hres.2
          | alloc => exact absurd hkind h1
          | eff => exact absurd hkind h2
        obtain ⟨u, hr, hvr⟩ := hsame
        rw [hr]
        have hnm : ¬ Made T p x := fun hm => h1 (by rw [hkk]; exact hm.1)
        have hinv := inv_same can inv tu heff (Emb.le_refl ι) rfl (w' := w) (u := u) (fun _ _ => rfl) (Nat.le_refl _) ⟨rfl, rfl, rfl⟩ (fun b l h => .inl h) (fun hm => absurd hm hnm) (by rw [can.still tu.hp heff hnm]; exact hvr)
        rw [tu.dsto] at hinv
        exact hk _ _ _ _ hinv
      cases hkind : ao.kind with
      | pure => exact same (by rw [hkind]; decide) (by rw [hkind]; decide) (ev_pure hkind hev).2 rfl
      | read =>
        have hm := cut_mem can inv tu
        have hl : lookOk x.op (T p).ev (vv p) ((K p).take (x.look + 1)) = true := by
          unfold looked at hlk
          rw [← hkk, hkind] at hlk
          exact hlk
        rw [hao] at hl
        have hl := List.all_eq_true.1 hl _ hm
        split at hl
        · rename_i v' g' hg
          have := V.beq_eq _ _ hl
          exact same (by rw [hkind]; decide) (by rw [hkind]; decide) (ev_read hkind hg (G p).nx).2 this.symm
        · cases hl
      | eff => rw [← hkk] at heff; exact absurd hkind heff
      | alloc =>
        have hmade : Made T p x := ⟨by rw [← hkk, hkind], hw⟩
        obtain ⟨ao', blk, hao', _, hG, hall⟩ := can.madeAt tu.hp hmade
        rw [hao] at hao'; cases hao'
        have h3 := hall (G c).tr
        rw [ev_congr htmp] at h3
        have hres := op_sound hco hsim hρ h3
        rw [hkind] at hres
        obtain ⟨u, w', obj, blk', l, hr, hlaid, hcb, hpush, hown, hblk, hvr⟩ := hres
        have hheap := laid_heap hlaid
        have := H.push_inj hpush; subst this
        rw [hr]
        have hnx := can.madeNx tu.hp hmade
        have hfresh : ι (G p).nx = none := by
          cases hl : ι (G p).nx with
          | none => rfl
          | some l =>
            exfalso
            rcases inv.dom hl with h1 | ⟨q, j, y, h1, h2, h3, h4, h5⟩
            · have := can.mono tu.cp (Nat.le_of_lt tu.lt); omega
            · have hql := (List.getElem?_eq_some_iff.1 h2).1
              rcases Nat.lt_trichotomy q p with h6 | h6 | h6
              · have h7 := can.madeNx h2 h4
                have h8 := can.mono (p := q + 1) (q := p) h6 (Nat.le_of_lt tu.lt)
                omega
              · subst h6
                rw [tu.hp] at h2; cases h2
                exact tu.nd h3
              · have h8 := can.mono (p := p + 1) (q := q) h6 (by omega)
                omega
        have hle : ι.le (ι.add (G p).nx l) := Emb.le_add l hfresh
        have hres1 : res (ι.add (G p).nx l) (G c).nx = res ι (G c).nx := by
          funext b
          simp only [res, Emb.add]
          have := can.mono tu.cp (Nat.le_of_lt tu.lt)
          by_cases hb : b < (G c).nx
          · rw [if_pos hb, if_pos hb, if_neg (by omega)]
          · rw [if_neg hb, if_neg hb]
        have hres2 : res (ι.add (G p).nx l) (G (p + 1)).nx = (res ι (G p).nx).add (G p).nx l := by
          funext b
          simp only [res, Emb.add]
          rw [hnx]
          by_cases hb : b = (G p).nx
          · subst hb; rw [if_pos (by omega), if_pos rfl, if_pos rfl]
          · by_cases hb2 : b < (G p).nx
            · rw [if_pos (by omega), if_neg hb, if_neg hb, if_pos hb2]
            · rw [if_neg (by omega), if_neg hb, if_neg hb2]
        have hinv := inv_same can inv tu heff hle hres1 (w' := w') (u := u) (fun b hb => by rw [hheap]; simp [Array.getElem?_push, Nat.ne_of_lt hb]) (by rw [hheap]; simp) (laid_sky hlaid)
          (fun b m hb => by
            unfold Emb.add at hb
            by_cases h1 : b = (G p).nx
            · exact .inr ⟨hmade, h1⟩
            · rw [if_neg h1] at hb; exact .inl hb)
          (fun _ => ⟨l, blk, Emb.add_same _ _ _, hG, hblk _ (by rw [hres2]; exact Emb.le_add l (by simp only [res]; rw [if_neg (by omega)])), hcb, by rw [hheap, hcb]; simp⟩)
          (by rw [hres2]; exact hvr)
        rw [tu.dsto] at hinv
        exact hk _ _ _ _ hinv

/-! ### All of them -/
theorem countP_lt {α : Type} {q q' : α → Bool} : ∀ {l : List α}, (∀ x ∈ l, q' x = true → q x = true) → (∃ x ∈ l, q x = true ∧ q' x = false) → l.countP q' < l.countP q
  | [], _, h => by obtain ⟨x, h, _⟩ := h; simp at h
  | y :: l, hle, h => by
    have hmono : l.countP q' ≤ l.countP q := List.countP_mono_left fun x hx => hle x (List.mem_cons_of_mem _ hx)
    obtain ⟨x, hx, h1, h2⟩ := h
    rcases List.mem_cons.1 hx with rfl | hx
    · rw [List.countP_cons, List.countP_cons, h1, h2]
      simp; omega
    · have ih := countP_lt (q := q) (q' := q') (l := l) (fun x hx => hle x (List.mem_cons_of_mem _ hx)) ⟨x, hx, h1, h2⟩
      rw [List.countP_cons, List.countP_cons]
      have := hle y (by simp)
      cases hy : q' y with
      | true => rw [this hy]; simp; omega
      | false => simp; omega

def left (ops : Array Oper) (listed : Array Bool) : Nat := (List.range ops.size).countP fun i => !listed.getD i false

theorem ready_some (can : Can P nt R ops L T G K vv) (inv : Inv P B nt ops L T G e0 h0 w0 ds listed a w c ι) (hr : Go.Region.ready .any ops listed = []) : ∀ {p i : Nat} {x : AOper}, L[p]? = some (i, x) → listed.getD i false = true := by
  intro p
  induction p using Nat.strongRecOn with
  | _ p ih =>
    intro i x hp
    refine Decidable.byContradiction fun hn => ?_
    obtain ⟨o, ho⟩ := can.ord.ok hp
    have hisz : i < ops.size := (Array.getElem?_eq_some_iff.1 ho).1
    have hlti : i < listed.size := by rw [inv.lsz]; exact hisz
    have : i ∈ Go.Region.ready .any ops listed := by
      refine Go.mem_ready.2 ⟨?_, o, ho, fun e he hb => ?_⟩
      · simp only [Array.getD_eq_getD_getElem?, Array.getElem?_eq_getElem hlti, Option.getD_some] at hn ⊢
        simpa using hn
      · obtain ⟨q, y, hq, hy⟩ := can.ord.pre hp (befores_edge ho he hb)
        exact ih q hq hy
    rw [hr] at this
    cases this

theorem any_sound (can : Can P nt R ops L T G K vv) (hR : RunOk P R) {F : Fence} (hF : wideF F) {n : Nat} (hB : B ≤ w0.heap.size) {Q : Go.Exit → Act → World → Prop}
    (hQ : ∀ listed a w c ι, Inv P B nt ops L T G e0 h0 w0 ds listed a w c ι → (∀ {p i : Nat} {x : AOper}, L[p]? = some (i, x) → listed.getD i false = true) → Q .normal a w) :
    ∀ (fuel : Nat) {listed : Array Bool} {a : Act} {w : World} {c : Nat} {ι : Emb}, Inv P B nt ops L T G e0 h0 w0 ds listed a w c ι → left ops listed ≤ fuel → Go.wpAnyIn F n P .any ops Q fuel listed a w
  | 0, listed, a, w, c, ι, inv, hl => by
    have hall : ∀ i, i < ops.size → listed.getD i false = true := fun i hi => by
      have h0 : left ops listed = 0 := by omega
      have := (List.countP_eq_zero.1 h0) i (List.mem_range.2 hi)
      simpa using this
    have hr : Go.Region.ready .any ops listed = [] := by
      refine List.eq_nil_iff_forall_not_mem.2 fun i hi => ?_
      obtain ⟨p, x, o, tu⟩ := turn can inv hi
      exact tu.nd (hall i (Array.getElem?_eq_some_iff.1 tu.ho).1)
    exact ⟨hr, hQ _ _ _ _ _ inv (ready_some can inv hr)⟩
  | fuel + 1, listed, a, w, c, ι, inv, hl => by
    refine ⟨fun hr => hQ _ _ _ _ _ inv (ready_some can inv hr), fun i hi => ?_⟩
    refine step_any can hR hF hB inv hi fun a' w' c' ι' hinv => any_sound can hR hF hB hQ fuel hinv ?_
    obtain ⟨p, x, o, tu⟩ := turn can inv hi
    have : left ops (listed.setIfInBounds i true) < left ops listed := by
      refine countP_lt (fun j _ hj => ?_) ⟨i, List.mem_range.2 (Array.getElem?_eq_some_iff.1 tu.ho).1, by have := tu.nd; simpa using this, ?_⟩
      · simp only [Bool.not_eq_true'] at hj ⊢
        cases h1 : listed.getD j false with
        | false => rfl
        | true => rw [(listed_set tu.lti j).2 (.inr h1)] at hj; cases hj
      · rw [(listed_set tu.lti i).2 (.inl rfl)]; rfl
    omega

/-! ### The region -/
theorem compD_at {bs effs : List Nat} : ∀ {is ahead : List Nat} {L : List (Nat × AOper)}, compD P nt ops bs effs ahead is = some L → ∀ {p i : Nat} {x : AOper} {o : Oper}, L[p]? = some (i, x) → ops[i]? = some o → ∃ k, compOper P nt ops k o = some x
  | [], ahead, L, h, p, i, x, o, hp, ho => by simp [compD] at h; subst h; simp at hp
  | i0 :: is, ahead, L, h, p, i, x, o, hp, ho => by
    unfold compD at h
    obtain ⟨o1, ho1, h⟩ := Option.bind_eq_some_iff.1 h
    obtain ⟨a1, ha1, h⟩ := Option.bind_eq_some_iff.1 h
    obtain ⟨as, has, h⟩ := Option.bind_eq_some_iff.1 h
    cases h
    cases p with
    | zero =>
      simp at hp
      obtain ⟨rfl, rfl⟩ := hp
      rw [ho1] at ho; cases ho
      exact ⟨_, ha1⟩
    | succ p => exact compD_at has (by simpa using hp) ho

theorem draw_sound {R : RunT} (hR : RunOk P R) : DrawSound P R := by
  intro nt ops as t t' h h' hmix hc hev F n N B e w a rs id hF s ht hd
  unfold compRegD at hc
  obtain ⟨L, hL, hc⟩ := Option.bind_eq_some_iff.1 hc
  split at hc
  · rename_i hchk
    simp only [Bool.and_eq_true] at hchk
    cases hc
    obtain ⟨T, G, K, vv, tr⟩ := trace hev
    have has : ∀ {p i : Nat} {x : AOper}, L[p]? = some (i, x) → (L.map (·.2))[p]? = some x := fun hp => by rw [List.getElem?_map, hp]; rfl
    have can : Can P nt R ops L T G K vv := by
      refine ⟨ordOk hchk.2, fun i hi => ?_, fun hp ho => compD_at hL hp ho, fun hp => tr.st _ _ (has hp), fun hp => tr.tt _ _ (has hp), ?_⟩
      · have := List.all_eq_true.1 hchk.1 i (List.mem_range.2 hi)
        simp only [List.contains_eq_mem, decide_eq_true_eq] at this
        obtain ⟨q, hq, rfl⟩ := List.mem_map.1 this
        obtain ⟨p, hp⟩ := List.mem_iff_getElem?.1 hq
        exact ⟨p, q.2, hp⟩
      · intro p hp
        induction p with
        | zero => simp [epos, tr.k0, tr.g0]
        | succ p ih =>
          have hlt : p < L.length := hp
          obtain ⟨⟨i, x⟩, hx⟩ : ∃ q, L[p]? = some q := ⟨L[p], List.getElem?_eq_getElem hlt⟩
          rw [tr.kk p x (has hx), ih (by omega)]
          simp only [epos, hx, behind]
          cases hk : x.op.kind <;> simp
    refine Go.wpIn_region_any hmix ?_
    have hse : res e h.nx = e := by
      funext b
      simp only [res]
      cases hb : e b with
      | none => simp
      | some l => rw [if_pos (s.dom _ _ hb)]
    have inv0 : Inv P B nt ops L T G e h w a.defers (Array.replicate ops.size false) a { w with drawn := w.drawn + 1 } 0 e := by
      have hno : ∀ i, (Array.replicate ops.size false).getD i false = false := fun i => by
        simp only [Array.getD_eq_getD_getElem?, Array.getElem?_replicate]
        split <;> rfl
      have hno' : ∀ {i}, (Array.replicate ops.size false).getD i false = true → False := fun hi => by rw [hno] at hi; cases hi
      refine ⟨by simp, fun i hi => (hno' hi).elim, Nat.zero_le _, fun _ h0 => by omega, fun _ _ hi => (hno' hi).elim, .inl rfl, ?_, fun {b l} hb => .inl ?_, fun _ _ hi => (hno' hi).elim, fun _ _ hi => (hno' hi).elim, fun d => ?_, ht.size, rfl⟩
      · rw [tr.g0, hse]
        exact Stp.more s (fun _ _ => rfl) (Nat.le_refl _)
      · rw [tr.g0]; exact s.dom _ _ hb
      · refine ⟨0, Nat.zero_le _, .inl rfl, fun _ _ hi => (hno' hi).elim, ?_⟩
        rw [tr.g0, tr.t0, hse]
        exact ht.get d
    refine any_sound can hR hF s.low ?_ ops.size inv0 ?_
    · intro listed a' w' c ι inv hall
      obtain ⟨st, _⟩ := adopt_all can s.low inv inv.cle (Nat.le_refl _) (fun _ hx => hall hx)
      have hte : T L.length = t' := by have := tr.te; simpa using this
      have hge : G L.length = h' := by have := tr.ge; simpa using this
      rw [hge] at st
      refine ⟨trivial, res ι h'.nx, rs, ⟨inv.tsz, fun d => ?_⟩, st, by rw [inv.dfr]; exact hd.step st⟩
      obtain ⟨m, h1, _, h3, h4⟩ := inv.slot d
      have hT : ∀ k, m ≤ k → k ≤ L.length → (T k).v d = (T m).v d := by
        intro k hk
        induction hk with
        | refl => intro _; rfl
        | @step k hk ih =>
          intro hkp
          have hkl : k < L.length := hkp
          obtain ⟨⟨j, y⟩, hq⟩ : ∃ q, L[k]? = some q := ⟨L[k], List.getElem?_eq_getElem hkl⟩
          rw [can.tt hq, ← ih (by omega)]
          have hne := h3 hk hq (hall hq)
          cases hyd : y.dst with
          | none => rfl
          | some d' =>
            simp only [Tm.pd, Tm.v_st]
            rw [if_neg (fun hh => hne (by rw [hyd, hh]))]
      rw [← hte, hT _ h1 (Nat.le_refl _)]
      have := h4.mono (res_le (can.mono h1 (Nat.le_refl _)))
      rw [hge] at this
      exact this
    · unfold left
      have := List.countP_le_length (p := fun i => !(Array.replicate ops.size false).getD i false) (l := List.range ops.size)
      simpa using this
  · cases hc

end Am

/- AmRow: from a run of the abstract machine to a call of the model, as a row's frame asks for it. -/
namespace Am
set_option linter.unusedVariables false
set_option linter.unusedSimpArgs false
open Go (IntKind BinOp UnOp Value Program TypeId TypeDesc Operand Oper Code Tmp World Addr Obj Act Fence)

/-- The program itself, nothing taken for granted. -/
def progOf (P : Program) : Prog := { fn := fun f => (P.funcs[f]?).bind (compF P), ext := fun _ => none }
theorem progOf_ok (P : Program) : ProgOk P (progOf P) :=
  ⟨fun f af h => Option.bind_eq_some_iff.1 h, fun f g h => by simp [progOf] at h, fun R hR => draw_sound hR⟩

theorem calls_of_run {P : Program} {pr : Prog} (hp : ProgOk P pr) {n f : Nat} {args : List V} {v : V} {h h' : H} (hx : pr.ext f = none) (hrun : runN pr n (.fn f) args h = some (v, h')) {e : Emb} {w : World} {cargs : Array Value}
    (hv : VRL e args cargs.toList) (s : Sim (CC P) w.heap.size e h w) (hro : ∀ b x, h.get b = some x → x.own = false) :
    Go.Calls P f cargs w fun E w' => ∃ u e', E = .returned u ∧ VR e' v u ∧ Go.RowKit.Below w.heap.size w w' := by
  cases n with
  | zero => simp [runN] at hrun
  | succ n =>
    simp only [runN, evCal, hx] at hrun
    split at hrun
    · rename_i af haf
      obtain ⟨fn, hf, hc⟩ := hp.fn f af haf
      have hR := run_sound hp n
      obtain ⟨h1, h2⟩ := fn_sound hR (hp.draw _ hR) n hf hc hrun (F := Fence.wide) 0 hv s ⟨fun _ => trivial, rfl, rfl⟩
      rw [h2] at h1
      refine Go.callsIn_wide.1 (Go.CallsIn.mono h1 ?_)
      rintro E w' ⟨u, rfl, e', hu, st⟩
      refine ⟨u, e', rfl, hu, st.sky.os, st.sky.tape, st.sky.output, st.grow, fun c hc => st.keep c hc ?_⟩
      rintro ⟨b, x, l, hb, hown, _⟩
      rw [hro b x hb] at hown; cases hown
    · cases hrun

def yes : Option (V × H) → Bool
  | some (.b true, _) => true
  | _ => false
theorem yes_some {r : Option (V × H)} (h : yes r = true) : ∃ h', r = some (.b true, h') := by
  unfold yes at h
  split at h
  · exact ⟨_, rfl⟩
  · cases h

theorem glOf_lt {P : Program} {b : Nat} {l : Loc} (h : glOf P b = some l) : b < 4096 := by
  unfold glOf at h
  split at h
  · assumption
  · cases h

end Am

/- AmMono: more fuel, the same answer. -/
namespace Am
set_option linter.unusedVariables false
set_option linter.unusedSimpArgs false
open Go (IntKind BinOp UnOp)

def RLe (R R' : RunT) : Prop := ∀ c as h r, R c as h = some r → R' c as h = some r
def ILe (I I' : IterT) : Prop := ∀ (b b' : (Tm × H) → Option (Option Ex × (Tm × H))) s r, (∀ s r, b s = some r → b' s = some r) → I b s = some r → I' b' s = some r

variable {R R' : RunT} {I I' : IterT}

theorem evOp_mono (hR : RLe R R') {op : AAct} {t : Tm} {h : H} {r : V × H} (hv : evOp R op t h = some r) : evOp R' op t h = some r := by
  cases op with
  | op x => exact hv
  | call f args =>
    unfold evOp at hv ⊢
    simp only at hv ⊢
    split at hv
    · exact hR _ _ _ _ hv
    · cases hv
  | inv tbl x args =>
    unfold evOp at hv ⊢
    simp only at hv ⊢
    split at hv
    · split at hv
      · exact hR _ _ _ _ hv
      · cases hv
    · cases hv

theorem evOps_mono (hR : RLe R R') : ∀ {ops : List AOper} {t : Tm} {h : H} {r : Tm × H}, evOps R ops t h = some r → evOps R' ops t h = some r
  | [], t, h, r, hv => hv
  | o :: os, t, h, r, hv => by
    unfold evOps at hv ⊢
    split at hv
    · rename_i hw
      rw [if_pos hw]
      obtain ⟨q, h1, h2⟩ := Option.bind_eq_some_iff.1 hv
      rw [evOp_mono hR h1]
      exact evOps_mono hR h2
    · rename_i hw
      rw [if_neg hw]
      exact evOps_mono hR hv

theorem stepD_mono (hR : RLe R R') {o : AOper} {t : Tm} {h : H} {hs : List H} {r : V × H} (hv : stepD R o t h hs = some r) : stepD R' o t h hs = some r := by
  unfold stepD at hv ⊢
  split at hv
  · rename_i hw
    rw [if_pos hw]
    obtain ⟨q, h1, h2⟩ := Option.bind_eq_some_iff.1 hv
    rw [evOp_mono hR h1]
    exact h2
  · rename_i hw
    rw [if_neg hw]; exact hv

theorem evOpsD_mono (hR : RLe R R') : ∀ {ops : List AOper} {t : Tm} {h : H} {hs : List H} {r : Tm × H}, evOpsD R ops t h hs = some r → evOpsD R' ops t h hs = some r
  | [], t, h, hs, r, hv => hv
  | o :: os, t, h, hs, r, hv => by
    unfold evOpsD at hv ⊢
    obtain ⟨q, h1, h2⟩ := Option.bind_eq_some_iff.1 hv
    rw [stepD_mono hR h1]
    exact evOpsD_mono hR h2

theorem evA_mono (hR : RLe R R') (hI : ILe I I') (nt : Nat) (ar : Option Nat) : ∀ {c : ACode} {t : Tm} {h : H} {r : Ex × (Tm × H)}, evA R I nt ar c t h = some r → evA R' I' nt ar c t h = some r := by
  intro c
  induction c with
  | skip => intro t h r hv; exact hv
  | region ops =>
    intro t h r hv
    unfold evA at hv ⊢
    obtain ⟨q, h1, h2⟩ := Option.bind_eq_some_iff.1 hv
    rw [evOps_mono hR h1]; exact h2
  | regionD ops =>
    intro t h r hv
    unfold evA at hv ⊢
    obtain ⟨q, h1, h2⟩ := Option.bind_eq_some_iff.1 hv
    rw [evOpsD_mono hR h1]; exact h2
  | seq a b iha ihb =>
    intro t h r hv
    unfold evA at hv ⊢
    obtain ⟨⟨x, t1, h1⟩, hx, h2⟩ := Option.bind_eq_some_iff.1 hv
    rw [iha hx]
    cases x with
    | normal => exact ihb h2
    | exit id => exact h2
    | ret => exact h2
  | cond c x y ihx ihy =>
    intro t h r hv
    unfold evA at hv ⊢
    split at hv
    · rename_i v hc
      cases v
      · simp only [Bool.false_eq_true, if_false] at hv ⊢; exact ihy hv
      · simp only [if_true] at hv ⊢; exact ihx hv
    · cases hv
  | block id c ih =>
    intro t h r hv
    unfold evA at hv ⊢
    obtain ⟨q, h1, h2⟩ := Option.bind_eq_some_iff.1 hv
    rw [ih h1]; exact h2
  | loop c ih =>
    intro t h r hv
    unfold evA at hv ⊢
    refine hI _ _ _ _ (fun s r hb => ?_) hv
    obtain ⟨q, h1, h2⟩ := Option.bind_eq_some_iff.1 hb
    show (evA R' I' nt ar c s.1 s.2).bind _ = _
    rw [ih h1]; exact h2
  | rfn f ps a b iha ihb =>
    intro t h r hv
    unfold evA at hv ⊢
    split at hv
    · rename_i ha
      rw [if_pos ha]
      split at hv
      · obtain ⟨q, h1, h2⟩ := Option.bind_eq_some_iff.1 hv
        rw [hR _ _ _ _ h1]; exact h2
      · cases hv
    · cases hv
  | exit id => intro t h r hv; exact hv
  | ret => intro t h r hv; exact hv
  | bad => intro t h r hv; exact hv

theorem iter_mono {σ ε : Type} : ∀ {n m : Nat} {b b' : σ → Option (Option ε × σ)} {s : σ} {r : ε × σ}, n ≤ m → (∀ s r, b s = some r → b' s = some r) → iter b n s = some r → iter b' m s = some r
  | 0, m, b, b', s, r, hn, hb, hv => by cases hv
  | n + 1, 0, b, b', s, r, hn, hb, hv => by omega
  | n + 1, m + 1, b, b', s, r, hn, hb, hv => by
    unfold iter at hv ⊢
    obtain ⟨⟨x, s1⟩, h1, h2⟩ := Option.bind_eq_some_iff.1 hv
    rw [hb _ _ h1]
    cases x with
    | none => exact iter_mono (Nat.le_of_succ_le_succ hn) hb h2
    | some e => exact h2
theorem iter_le {n m : Nat} (hn : n ≤ m) : ILe (fun b s => iter b n s) (fun b s => iter b m s) := fun b b' s r hb hv => iter_mono hn hb hv

theorem evFn_mono (hR : RLe R R') (hI : ILe I I') {af : AFunc} {args : List V} {h : H} {r : V × H} (hv : evFn R I af args h = some r) : evFn R' I' af args h = some r := by
  unfold evFn at hv ⊢
  split at hv
  · rename_i hl
    rw [if_pos hl]
    obtain ⟨q, h1, h2⟩ := Option.bind_eq_some_iff.1 hv
    rw [evA_mono hR hI _ _ h1]; exact h2
  · cases hv

theorem evRound_mono (hR : RLe R R') (hI : ILe I I') {l : Nat} {L : LoopSt} {args : List V} {h : H} {r : V × H} (hv : evRound R I l L args h = some r) : evRound R' I' l L args h = some r := by
  unfold evRound at hv ⊢
  split at hv
  · rename_i hl
    rw [if_pos hl]
    obtain ⟨⟨x, t1, h1⟩, hx, h2⟩ := Option.bind_eq_some_iff.1 hv
    rw [evA_mono hR hI _ _ hx]
    cases x with
    | normal =>
      show (match h1.get l with | some (.loop L1) => _ | _ => _) = _
      simp only at h2
      split at h2
      · rename_i L1 hg
        rw [hg]
        simp only
        split at h2
        · rename_i hst
          rw [if_pos hst]
          obtain ⟨q, h3, h4⟩ := Option.bind_eq_some_iff.1 h2
          rw [evA_mono hR hI _ _ h3]; exact h4
        · cases h2
      · cases h2
    | exit id => cases h2
    | ret => cases h2
  · cases hv

theorem evCal_mono (pr : Prog) (hR : RLe R R') (hI : ILe I I') : RLe (evCal pr R I) (evCal pr R' I') := by
  intro c as h r hv
  cases c with
  | fn f =>
    simp only [evCal] at hv ⊢
    cases he : pr.ext f with
    | some g => rw [he] at hv; exact hv
    | none =>
      rw [he] at hv
      cases hf : pr.fn f with
      | some af => rw [hf] at hv; exact evFn_mono hR hI hv
      | none => rw [hf] at hv; cases hv
  | yl l =>
    simp only [evCal] at hv ⊢
    split at hv
    · rename_i L hg
      exact evRound_mono hR hI hv
    · cases hv

theorem runN_mono (pr : Prog) : ∀ {n m : Nat}, n ≤ m → RLe (runN pr n) (runN pr m)
  | 0, m, hn => fun c as h r hv => by cases hv
  | n + 1, 0, hn => by omega
  | n + 1, m + 1, hn => evCal_mono pr (runN_mono pr (Nat.le_of_succ_le_succ hn)) (iter_le (Nat.le_of_succ_le_succ hn))

end Am

/- AmWp: what must hold ahead of a piece of code, so that it ends and something holds behind it. -/
namespace Am
set_option linter.unusedVariables false
set_option linter.unusedSimpArgs false
open Go (IntKind BinOp UnOp)

/-- A call ends, and this holds of its answer. -/
def Runs (pr : Prog) (c : Cal) (as : List V) (h : H) (K : V → H → Prop) : Prop := ∃ n v h', runN pr n c as h = some (v, h') ∧ K v h'
def wpOp (op : AOp) (t : Tm) (h : H) (K : V → H → Prop) : Prop := ∃ r, op.ev t.ev h = some r ∧ K r.1 r.2
def wpCall (pr : Prog) (f : V) (as : List V) (h : H) (K : V → H → Prop) : Prop :=
  match f with
  | .f c caps => Runs pr c (as ++ caps) h K
  | _ => False
def wpInv (pr : Prog) (tbl : List (Nat × Nat)) (x : V) (as : List V) (h : H) (K : V → H → Prop) : Prop :=
  match x with
  | .ifc ty v => match inTbl tbl ty with
    | some f => Runs pr (.fn f) (v :: as) h K
    | none => False
  | _ => False
def wpAct (pr : Prog) (a : AAct) (t : Tm) (h : H) (K : V → H → Prop) : Prop :=
  match a with
  | .call f args => wpCall pr (t.ev f) (args.map t.ev) h K
  | .inv tbl x args => wpInv pr tbl (t.ev x) (args.map t.ev) h K
  | .op op => wpOp op t h K
def wpOps (pr : Prog) : List AOper → Tm → H → (Tm → H → Prop) → Prop
  | [], t, h, Q => Q t h
  | o :: os, t, h, Q => if o.wanted t then wpAct pr o.op t h (fun v h' => wpOps pr os (t.pd o.dst v) h' Q) else wpOps pr os (t.pd o.dst .un) h Q
def wpOpsD (pr : Prog) : List AOper → Tm → H → List H → (Tm → H → Prop) → Prop
  | [], t, h, _, Q => Q t h
  | o :: os, t, h, hs, Q => if o.wanted t then wpAct pr o.op t h (fun v h' => (looked o t.ev v hs && Nat.ble h.nx h'.nx) = true ∧ wpOpsD pr os (t.pd o.dst v) h' (behind o.op h' hs) Q)
      else wpOpsD pr os (t.pd o.dst .un) h (behind o.op h hs) Q
def wpA (pr : Prog) (nt : Nat) (ar : Option Nat) (c : ACode) (t : Tm) (h : H) (Q : Ex → Tm → H → Prop) : Prop :=
  ∃ n ex t' h', evA (runN pr n) (fun b s => iter b n s) nt ar c t h = some (ex, t', h') ∧ Q ex t' h'

variable {pr : Prog} {nt : Nat} {ar : Option Nat}

theorem Runs.mono {c : Cal} {as : List V} {h : H} {K K' : V → H → Prop} (hr : Runs pr c as h K) (hk : ∀ v h', K v h' → K' v h') : Runs pr c as h K' :=
  let ⟨n, v, h', a, b⟩ := hr; ⟨n, v, h', a, hk _ _ b⟩
theorem wpA_mono {c : ACode} {t : Tm} {h : H} {Q Q' : Ex → Tm → H → Prop} (hr : wpA pr nt ar c t h Q) (hk : ∀ e t' h', Q e t' h' → Q' e t' h') : wpA pr nt ar c t h Q' :=
  let ⟨n, e, t', h', a, b⟩ := hr; ⟨n, e, t', h', a, hk _ _ _ b⟩
/-! ### What the runner does is what these say -/
theorem evOp_of_wp {a : AAct} {t : Tm} {h : H} {K : V → H → Prop} : wpAct pr a t h K ↔ ∃ n v h', evOp (runN pr n) a t h = some (v, h') ∧ K v h' := by
  cases a with
  | op x =>
    constructor
    · rintro ⟨⟨v, h'⟩, a, b⟩; exact ⟨0, v, h', a, b⟩
    · rintro ⟨n, v, h', a, b⟩; exact ⟨(v, h'), a, b⟩
  | call f args =>
    constructor
    · intro hr
      have hr : wpCall pr (t.ev f) (args.map t.ev) h K := hr
      cases hf : t.ev f with
      | f c caps =>
        rw [hf] at hr
        obtain ⟨n, v, h', a, b⟩ := hr
        refine ⟨n, v, h', ?_, b⟩
        simp only [evOp, hf]; exact a
      | _ => rw [hf] at hr; exact hr.elim
    · rintro ⟨n, v, h', a, b⟩
      show wpCall pr (t.ev f) (args.map t.ev) h K
      unfold evOp at a
      simp only at a
      cases hf : t.ev f with
      | f c caps => rw [hf] at a; exact ⟨n, v, h', a, b⟩
      | _ => rw [hf] at a; cases a
  | inv tbl x args =>
    constructor
    · intro hr
      have hr : wpInv pr tbl (t.ev x) (args.map t.ev) h K := hr
      cases hf : t.ev x with
      | ifc ty v =>
        rw [hf] at hr
        unfold wpInv at hr
        simp only at hr
        split at hr
        · rename_i f hin
          obtain ⟨n, v', h', a, b⟩ := hr
          refine ⟨n, v', h', ?_, b⟩
          simp only [evOp, hf, hin]; exact a
        · exact hr.elim
      | _ => rw [hf] at hr; exact hr.elim
    · rintro ⟨n, v, h', a, b⟩
      show wpInv pr tbl (t.ev x) (args.map t.ev) h K
      unfold evOp at a
      simp only at a
      cases hf : t.ev x with
      | ifc ty v0 =>
        rw [hf] at a
        simp only at a
        unfold wpInv
        simp only
        cases hin : inTbl tbl ty with
        | some f => rw [hin] at a; exact ⟨n, v, h', a, b⟩
        | none => rw [hin] at a; cases a
      | _ => rw [hf] at a; cases a

theorem evOps_of_wp : ∀ {ops : List AOper} {t : Tm} {h : H} {Q : Tm → H → Prop}, wpOps pr ops t h Q ↔ ∃ n t' h', evOps (runN pr n) ops t h = some (t', h') ∧ Q t' h'
  | [], t, h, Q => ⟨fun hr => ⟨0, t, h, rfl, hr⟩, fun ⟨n, t', h', a, b⟩ => by cases a; exact b⟩
  | o :: os, t, h, Q => by
    unfold wpOps
    by_cases hw : o.wanted t = true
    · rw [if_pos hw, evOp_of_wp]
      constructor
      · rintro ⟨n, v, h1, a, b⟩
        obtain ⟨m, t', h', c, d⟩ := evOps_of_wp.1 b
        refine ⟨max n m, t', h', ?_, d⟩
        unfold evOps
        rw [if_pos hw, evOp_mono (runN_mono pr (Nat.le_max_left n m)) a]
        exact evOps_mono (runN_mono pr (Nat.le_max_right n m)) c
      · rintro ⟨n, t', h', a, b⟩
        unfold evOps at a
        rw [if_pos hw] at a
        obtain ⟨⟨v, h1⟩, c, d⟩ := Option.bind_eq_some_iff.1 a
        exact ⟨n, v, h1, c, evOps_of_wp.2 ⟨n, t', h', d, b⟩⟩
    · rw [if_neg hw, evOps_of_wp]
      constructor
      · rintro ⟨n, t', h', a, b⟩; exact ⟨n, t', h', by unfold evOps; rw [if_neg hw]; exact a, b⟩
      · rintro ⟨n, t', h', a, b⟩; exact ⟨n, t', h', by unfold evOps at a; rw [if_neg hw] at a; exact a, b⟩

theorem evOpsD_of_wp : ∀ {ops : List AOper} {t : Tm} {h : H} {hs : List H} {Q : Tm → H → Prop}, wpOpsD pr ops t h hs Q ↔ ∃ n t' h', evOpsD (runN pr n) ops t h hs = some (t', h') ∧ Q t' h'
  | [], t, h, hs, Q => ⟨fun hr => ⟨0, t, h, rfl, hr⟩, fun ⟨n, t', h', a, b⟩ => by cases a; exact b⟩
  | o :: os, t, h, hs, Q => by
    unfold wpOpsD
    by_cases hw : o.wanted t = true
    · rw [if_pos hw, evOp_of_wp]
      constructor
      · rintro ⟨n, v, h1, a, l, b⟩
        obtain ⟨m, t', h', c, d⟩ := evOpsD_of_wp.1 b
        refine ⟨max n m, t', h', ?_, d⟩
        unfold evOpsD stepD
        rw [if_pos hw, evOp_mono (runN_mono pr (Nat.le_max_left n m)) a]
        simp only [Option.bind_some, l, if_true]
        exact evOpsD_mono (runN_mono pr (Nat.le_max_right n m)) c
      · rintro ⟨n, t', h', a, b⟩
        unfold evOpsD stepD at a
        rw [if_pos hw] at a
        obtain ⟨⟨v, h1⟩, c, d⟩ := Option.bind_eq_some_iff.1 a
        obtain ⟨⟨v2, h2⟩, c1, c2⟩ := Option.bind_eq_some_iff.1 c
        split at c2
        · rename_i hl
          cases c2
          exact ⟨n, v, h1, c1, hl, evOpsD_of_wp.2 ⟨n, t', h', d, b⟩⟩
        · cases c2
    · rw [if_neg hw, evOpsD_of_wp]
      constructor
      · rintro ⟨n, t', h', a, b⟩; exact ⟨n, t', h', by unfold evOpsD stepD; rw [if_neg hw]; exact a, b⟩
      · rintro ⟨n, t', h', a, b⟩; exact ⟨n, t', h', by unfold evOpsD stepD at a; rw [if_neg hw] at a; exact a, b⟩

variable {t : Tm} {h : H} {Q : Ex → Tm → H → Prop}

theorem wpA_skip : wpA pr nt ar .skip t h Q ↔ Q .normal t h :=
  ⟨fun ⟨n, e, t', h', a, b⟩ => by cases a; exact b, fun b => ⟨0, _, _, _, rfl, b⟩⟩
theorem wpA_exit {id : Nat} : wpA pr nt ar (.exit id) t h Q ↔ Q (.exit id) t h :=
  ⟨fun ⟨n, e, t', h', a, b⟩ => by cases a; exact b, fun b => ⟨0, _, _, _, rfl, b⟩⟩
theorem wpA_ret : wpA pr nt ar .ret t h Q ↔ Q .ret t h :=
  ⟨fun ⟨n, e, t', h', a, b⟩ => by cases a; exact b, fun b => ⟨0, _, _, _, rfl, b⟩⟩
theorem wpA_region {ops : List AOper} : wpA pr nt ar (.region ops) t h Q ↔ wpOps pr ops t h (Q .normal) := by
  rw [evOps_of_wp]
  constructor
  · rintro ⟨n, e, t', h', a, b⟩
    unfold evA at a
    obtain ⟨⟨t1, h1⟩, c, d⟩ := Option.bind_eq_some_iff.1 a
    cases d
    exact ⟨n, _, _, c, b⟩
  · rintro ⟨n, t', h', a, b⟩
    exact ⟨n, _, _, _, by unfold evA; rw [a]; rfl, b⟩
theorem wpA_regionD {ops : List AOper} : wpA pr nt ar (.regionD ops) t h Q ↔ wpOpsD pr ops t h [h] (Q .normal) := by
  rw [evOpsD_of_wp]
  constructor
  · rintro ⟨n, e, t', h', a, b⟩
    unfold evA at a
    obtain ⟨⟨t1, h1⟩, c, d⟩ := Option.bind_eq_some_iff.1 a
    cases d
    exact ⟨n, _, _, c, b⟩
  · rintro ⟨n, t', h', a, b⟩
    exact ⟨n, _, _, _, by unfold evA; rw [a]; rfl, b⟩

/-- What holds behind the first of two. -/
def thenQ (K : Tm → H → Prop) (Q : Ex → Tm → H → Prop) (e : Ex) (t : Tm) (h : H) : Prop :=
  match e with
  | .normal => K t h
  | e => Q e t h
theorem wpA_seq {a b : ACode} : wpA pr nt ar (.seq a b) t h Q ↔ wpA pr nt ar a t h (thenQ (fun t h => wpA pr nt ar b t h Q) Q) := by
  constructor
  · rintro ⟨n, e, t', h', x, y⟩
    unfold evA at x
    obtain ⟨⟨e1, t1, h1⟩, c, d⟩ := Option.bind_eq_some_iff.1 x
    refine ⟨n, e1, t1, h1, c, ?_⟩
    cases e1 with
    | normal => exact ⟨n, e, t', h', d, y⟩
    | exit id => cases d; exact y
    | ret => cases d; exact y
  · rintro ⟨n, e1, t1, h1, c, d⟩
    cases e1 with
    | normal =>
      obtain ⟨m, e, t', h', x, y⟩ := d
      refine ⟨max n m, e, t', h', ?_, y⟩
      unfold evA
      rw [evA_mono (runN_mono pr (Nat.le_max_left n m)) (iter_le (Nat.le_max_left n m)) _ _ c]
      exact evA_mono (runN_mono pr (Nat.le_max_right n m)) (iter_le (Nat.le_max_right n m)) _ _ x
    | exit id => exact ⟨n, _, _, _, by unfold evA; rw [c]; rfl, d⟩
    | ret => exact ⟨n, _, _, _, by unfold evA; rw [c]; rfl, d⟩
theorem evA_cond {R : RunT} {I : IterT} {c : AOpd} {x y : ACode} : evA R I nt ar (.cond c x y) t h = match t.ev c with
    | .b v => if v then evA R I nt ar x t h else evA R I nt ar y t h
    | _ => none := rfl
theorem wpA_cond_t {c : AOpd} {x y : ACode} (hc : t.ev c = .b true) : wpA pr nt ar (.cond c x y) t h Q ↔ wpA pr nt ar x t h Q := by
  unfold wpA; simp only [evA_cond, hc, if_true]
theorem wpA_cond_f {c : AOpd} {x y : ACode} (hc : t.ev c = .b false) : wpA pr nt ar (.cond c x y) t h Q ↔ wpA pr nt ar y t h Q := by
  unfold wpA; simp only [evA_cond, hc, Bool.false_eq_true, if_false]
def blockQ (id : Nat) (Q : Ex → Tm → H → Prop) (e : Ex) (t : Tm) (h : H) : Prop :=
  match e with
  | .exit id' => if id' = id then Q .normal t h else Q (.exit id') t h
  | e => Q e t h
theorem blockQ_exit {id id' : Nat} : blockQ id Q (.exit id') t h = if id' = id then Q .normal t h else Q (.exit id') t h := rfl
theorem wpA_block {id : Nat} {c : ACode} : wpA pr nt ar (.block id c) t h Q ↔ wpA pr nt ar c t h (blockQ id Q) := by
  constructor
  · rintro ⟨n, e, t', h', x, y⟩
    unfold evA at x
    obtain ⟨⟨e1, t1, h1⟩, c, d⟩ := Option.bind_eq_some_iff.1 x
    refine ⟨n, e1, t1, h1, c, ?_⟩
    cases e1 with
    | normal => cases d; exact y
    | exit id' =>
      simp only at d
      show (if id' = id then _ else _)
      split at d <;> rename_i hi <;> cases d
      · rw [if_pos hi]; exact y
      · rw [if_neg hi]; exact y
    | ret => cases d; exact y
  · rintro ⟨n, e1, t1, h1, c, d⟩
    cases e1 with
    | normal => exact ⟨n, _, _, _, by unfold evA; rw [c]; rfl, d⟩
    | exit id' =>
      by_cases hi : id' = id
      · refine ⟨n, .normal, t1, h1, by unfold evA; rw [c]; simp [hi], ?_⟩
        have : (if id' = id then Q .normal t1 h1 else Q (.exit id') t1 h1) := d
        rw [if_pos hi] at this; exact this
      · refine ⟨n, .exit id', t1, h1, by unfold evA; rw [c]; simp [hi], ?_⟩
        have : (if id' = id then Q .normal t1 h1 else Q (.exit id') t1 h1) := d
        rw [if_neg hi] at this; exact this
    | ret => exact ⟨n, _, _, _, by unfold evA; rw [c]; rfl, d⟩

/-! ### Loops -/
def bodyF (pr : Prog) (nt : Nat) (ar : Option Nat) (c : ACode) (n : Nat) (s : Tm × H) : Option (Option Ex × (Tm × H)) :=
  (evA (runN pr n) (fun b s => iter b n s) nt ar c s.1 s.2).bind fun r => match r.1 with
    | .normal => some (none, r.2)
    | e => some (some e, r.2)
theorem bodyF_mono {c : ACode} {n m : Nat} (hn : n ≤ m) (s : Tm × H) (r : Option Ex × (Tm × H)) (hb : bodyF pr nt ar c n s = some r) : bodyF pr nt ar c m s = some r := by
  unfold bodyF at hb ⊢
  obtain ⟨q, h1, h2⟩ := Option.bind_eq_some_iff.1 hb
  rw [evA_mono (runN_mono pr hn) (iter_le hn) _ _ h1]; exact h2
theorem evA_loop {c : ACode} {n : Nat} : evA (runN pr n) (fun b s => iter b n s) nt ar (.loop c) t h = iter (bodyF pr nt ar c n) n (t, h) := rfl

/-- One round, and then the rest. -/
theorem wpA_loop {c : ACode} (hr : wpA pr nt ar c t h (thenQ (fun t h => wpA pr nt ar (.loop c) t h Q) Q)) : wpA pr nt ar (.loop c) t h Q := by
  obtain ⟨n, e1, t1, h1, c1, d⟩ := hr
  cases e1 with
  | normal =>
    obtain ⟨m, e, t', h', x, y⟩ := d
    refine ⟨max n m + 1, e, t', h', ?_, y⟩
    rw [evA_loop] at x ⊢
    unfold iter
    have : bodyF pr nt ar c (max n m + 1) (t, h) = some (none, t1, h1) := bodyF_mono (n := n) (by omega) _ _ (by unfold bodyF; rw [c1]; rfl)
    rw [this]
    exact iter_mono (Nat.le_max_right n m) (bodyF_mono (by omega)) x
  | exit id =>
    refine ⟨n + 1, _, t1, h1, ?_, d⟩
    rw [evA_loop]
    unfold iter
    have : bodyF pr nt ar c (n + 1) (t, h) = some (some (.exit id), t1, h1) := bodyF_mono (n := n) (by omega) _ _ (by unfold bodyF; rw [c1]; rfl)
    rw [this]; rfl
  | ret =>
    refine ⟨n + 1, _, t1, h1, ?_, d⟩
    rw [evA_loop]
    unfold iter
    have : bodyF pr nt ar c (n + 1) (t, h) = some (some .ret, t1, h1) := bodyF_mono (n := n) (by omega) _ _ (by unfold bodyF; rw [c1]; rfl)
    rw [this]; rfl

/-- A loop by what holds at its head, with a number that falls. -/
theorem wpA_loop_inv {c : ACode} (M : Nat → Tm → H → Prop) (hr : ∀ m t h, M m t h → wpA pr nt ar c t h (thenQ (fun t h => ∃ m', m' < m ∧ M m' t h) Q)) : ∀ {m : Nat} {t : Tm} {h : H}, M m t h → wpA pr nt ar (.loop c) t h Q := by
  intro m
  induction m using Nat.strongRecOn with
  | ind m ih =>
    intro t h hm
    refine wpA_loop (wpA_mono (hr m t h hm) ?_)
    intro e t' h' hq
    cases e with
    | normal => obtain ⟨m', hlt, hm'⟩ := hq; exact ih m' hlt hm'
    | exit id => exact hq
    | ret => exact hq

/-! ### Functions -/
def wpRes (rs : List ARes) (K : V → H → Prop) (e : Ex) (t : Tm) (h : H) : Prop :=
  match e with
  | .exit _ => False
  | _ => ∃ vs, evRes t h rs = some vs ∧ K (resV vs) h
def wpF (pr : Prog) (af : AFunc) (args : List V) (h : H) (K : V → H → Prop) : Prop :=
  args.length ≤ af.ntmps ∧ wpA pr af.ntmps none af.code (Tm.args args 0) h (wpRes af.results K)
theorem runs_of_wpF {f : Nat} {af : AFunc} {args : List V} {K : V → H → Prop} (he : pr.ext f = none) (hf : pr.fn f = some af) (hw : wpF pr af args h K) : Runs pr (.fn f) args h K := by
  obtain ⟨hl, n, e, t', h', x, y⟩ := hw
  cases e with
  | exit id => exact y.elim
  | normal =>
    obtain ⟨vs, h1, h2⟩ := y
    refine ⟨n + 1, resV vs, h', ?_, h2⟩
    simp only [runN, evCal, he, hf, evFn]
    rw [if_pos hl, x]
    simp [h1]
  | ret =>
    obtain ⟨vs, h1, h2⟩ := y
    refine ⟨n + 1, resV vs, h', ?_, h2⟩
    simp only [runN, evCal, he, hf, evFn]
    rw [if_pos hl, x]
    simp [h1]
theorem runs_ext {f : Nat} {g : List V → H → Option (V × H)} {args : List V} {K : V → H → Prop} {r : V × H} (he : pr.ext f = some g) (hy : isYl args = false) (hg : g args h = some r) (hk : K r.1 r.2) : Runs pr (.fn f) args h K :=
  ⟨1, r.1, r.2, by simp only [runN, evCal, he, hy]; exact hg, hk⟩

end Am

/- AmAbs: a call's answer said more simply: what it made and let go is left out. -/
namespace Am
set_option linter.unusedVariables false
set_option linter.unusedSimpArgs false
open Go (IntKind BinOp UnOp Value Program TypeId TypeDesc Operand Oper Code Tmp World Addr Obj Act Fence)

mutual
/-- Names no block. -/
def V.plain : V → Bool
  | .b _ | .i _ _ | .s _ | .nf | .nifc => true
  | .p a => a.isNone
  | .sl a _ _ _ => a.isNone
  | .m r => r.isNone
  | .f (.fn _) vs => V.plains vs
  | .f (.yl _) _ => false
  | .ifc _ v => V.plain v
  | .agg vs => V.plains vs
  | .tup vs => V.plains vs
def V.plains : List V → Bool
  | [] => true
  | v :: vs => V.plain v && V.plains vs
end

mutual
theorem VR.plain {e e' : Emb} : ∀ {v : V} {u : Value}, VR e v u → v.plain = true → VR e' v u
  | _, _, .b x, _ => .b x
  | _, _, .i k n, _ => .i k n
  | _, _, .s s, _ => .s s
  | _, _, .p0, _ => .p0
  | _, _, .p b r f l h, hp => by simp [V.plain] at hp
  | _, _, .sl0 ex, _ => .sl0 ex
  | _, _, .sl b r len cap c ex l a h h1 h2 h3 h4, hp => by simp [V.plain] at hp
  | _, _, .m0, _ => .m0
  | _, _, .m b l h, hp => by simp [V.plain] at hp
  | _, _, .fn f vs ws h, hp => .fn f vs ws (VRL.plain h (by simpa [V.plain] using hp))
  | _, _, .yl b l h, hp => by simp [V.plain] at hp
  | _, _, .nf, _ => .nf
  | _, _, .ifc t v w h, hp => .ifc t v w (VR.plain h (by simpa [V.plain] using hp))
  | _, _, .nifc, _ => .nifc
  | _, _, .agg vs ws h, hp => .agg vs ws (VRL.plain h (by simpa [V.plain] using hp))
  | _, _, .tup vs ws h, hp => .tup vs ws (VRL.plain h (by simpa [V.plain] using hp))
theorem VRL.plain {e e' : Emb} : ∀ {vs : List V} {us : List Value}, VRL e vs us → V.plains vs = true → VRL e' vs us
  | _, _, .nil, _ => .nil
  | _, _, .cons v w vs ws h hs, hp => by
    simp only [V.plains, Bool.and_eq_true] at hp
    exact .cons v w vs ws (VR.plain h hp.1) (VRL.plain hs hp.2)
end

mutual
/-- What is known of the elder blocks alone. -/
theorem VR.back {e e' : Emb} (he : e.le e') : ∀ {v : V} {u0 u : Value}, VR e v u0 → VR e' v u → VR e v u
  | _, _, _, .b x, h => by cases h; exact .b x
  | _, _, _, .i k n, h => by cases h; exact .i k n
  | _, _, u, .s s, h => by
    obtain ⟨s', hs, he'⟩ := h.s_inv
    rw [hs, ← he']; exact .s s'
  | _, _, _, .p0, h => by cases h; exact .p0
  | _, _, _, .p b r f l h0, h => by
    cases h with
    | p _ _ _ l' h1 => rw [he _ _ h0] at h1; cases h1; exact .p b r f l h0
  | _, _, _, .sl0 ex, h => by cases h; exact .sl0 ex
  | _, _, _, .sl b r len cap c ex l a h0 h1 h2 h3 h4, h => by
    cases h with
    | sl _ _ _ _ c' _ l' a' g0 g1 g2 g3 g4 => rw [he _ _ h0] at g0; cases g0; exact .sl b r len cap c' ex l a' h0 g1 g2 g3 g4
  | _, _, _, .m0, h => by cases h; exact .m0
  | _, _, _, .m b l h0, h => by
    cases h with
    | m _ l' h1 => rw [he _ _ h0] at h1; cases h1; exact .m b l h0
  | _, _, _, .fn f vs ws h0, h => by
    cases h with
    | fn _ _ ws' h1 => exact .fn f vs ws' (VRL.back he h0 h1)
  | _, _, _, .yl b l h0, h => by
    cases h with
    | yl _ l' h1 => rw [he _ _ h0] at h1; cases h1; exact .yl b l h0
  | _, _, _, .nf, h => by cases h; exact .nf
  | _, _, _, .ifc t v w h0, h => by
    cases h with
    | ifc _ _ w' h1 => exact .ifc t v w' (VR.back he h0 h1)
  | _, _, _, .nifc, h => by cases h; exact .nifc
  | _, _, _, .agg vs ws h0, h => by
    cases h with
    | agg _ ws' h1 => exact .agg vs ws' (VRL.back he h0 h1)
  | _, _, _, .tup vs ws h0, h => by
    cases h with
    | tup _ ws' h1 => exact .tup vs ws' (VRL.back he h0 h1)
theorem VRL.back {e e' : Emb} (he : e.le e') : ∀ {vs : List V} {us0 us : List Value}, VRL e vs us0 → VRL e' vs us → VRL e vs us
  | _, _, _, .nil, h => by cases h; exact .nil
  | _, _, _, .cons v w vs ws h0 hs0, h => by
    cases h with
    | cons _ w' _ ws' h1 hs1 => exact .cons v w' vs ws' (VR.back he h0 h1) (VRL.back he hs0 hs1)
end

theorem CR.back {e e' : Emb} (he : e.le e') {v : V} {u0 u : Value} (h0 : CR e v u0) (h : CR e' v u) : CR e v u := ⟨h0.1.back he h.1, h.2⟩

theorem BlkR.back {C : Cx} {e e' : Emb} (he : e.le e') {x : Blk} {l : Loc} {w w' : World} (h0 : BlkR C e x l w) (h : BlkR C e' x l w') : BlkR C e x l w' := by
  cases x with
  | rows k rs ro =>
    obtain ⟨a, b⟩ := h
    refine ⟨a, fun r row hr => ⟨(b r row hr).1, fun j v hj => ?_⟩⟩
    obtain ⟨u0, _, c0, _⟩ := (h0.2 r row hr).2 j v hj
    obtain ⟨u, c1, c2, c3⟩ := (b r row hr).2 j v hj
    exact ⟨u, c1, c0.back he c2, c3⟩
  | bytes bs ro => exact h
  | map es =>
    obtain ⟨ces0, cl0, a0, b0, c0⟩ := h0
    obtain ⟨ces, cl, a, b, c⟩ := h
    exact ⟨ces, cl, a, b0.back he b, c0.back he c⟩
  | iter s pos => exact h
  | loop L =>
    obtain ⟨r0, a0, ⟨b1, b2, b3, b4, b5⟩, c0⟩ := h0
    obtain ⟨r, a, ⟨d1, d2, d3, d4, d5⟩, c⟩ := h
    exact ⟨r, a, ⟨d1, d2, d3, fun n => (b4 n).back he (d4 n), d5⟩, c⟩

/-- What is in it names no block. -/
def Blk.plain : Blk → Bool
  | .rows _ rs _ => rs.all V.plains
  | .bytes _ _ => true
  | .map es => V.plains (es.map (·.1)) && V.plains (es.map (·.2))
  | .iter _ _ => true
  | .loop _ => false
theorem V.plains_get : ∀ {vs : List V} {j : Nat} {v : V}, V.plains vs = true → vs[j]? = some v → v.plain = true
  | [], j, v, _, h => by simp at h
  | x :: xs, 0, v, hp, h => by simp at h; subst h; simp only [V.plains, Bool.and_eq_true] at hp; exact hp.1
  | x :: xs, j + 1, v, hp, h => by simp only [V.plains, Bool.and_eq_true] at hp; exact V.plains_get hp.2 (by simpa using h)
theorem BlkR.plain {C : Cx} {e e' : Emb} {x : Blk} {l : Loc} {w : World} (h : BlkR C e x l w) (hp : x.plain = true) : BlkR C e' x l w := by
  cases x with
  | rows k rs ro =>
    obtain ⟨a, b⟩ := h
    refine ⟨a, fun r row hr => ⟨(b r row hr).1, fun j v hj => ?_⟩⟩
    obtain ⟨u, c1, c2, c3⟩ := (b r row hr).2 j v hj
    have hrow : V.plains row = true := by
      simp only [Blk.plain, List.all_eq_true] at hp
      exact hp row (List.mem_of_getElem? hr)
    exact ⟨u, c1, ⟨c2.1.plain (V.plains_get hrow hj), c2.2⟩, c3⟩
  | bytes bs ro => exact h
  | map es =>
    simp only [Blk.plain, Bool.and_eq_true] at hp
    obtain ⟨ces, cl, a, b, c⟩ := h
    exact ⟨ces, cl, a, b.plain hp.1, c.plain hp.2⟩
  | iter s pos => exact h
  | loop L => cases hp

/-- The answer (v1, h1) of a call at h may be said to be (v, h'). -/
def Abs (h : H) (v1 : V) (h1 : H) (v : V) (h' : H) : Prop := ∀ (C : Cx) (B : Nat) (e e' : Emb) (w w' : World) (u : Value), Sim C B e h w → VR e' v1 u → Stp C B e h w e' h1 w' → ∃ e'', VR e'' v u ∧ Stp C B e h w e'' h' w'

theorem Abs.refl {h h1 : H} {v : V} : Abs h v h1 v h1 := fun C B e e' w w' u s hv st => ⟨e', hv, st⟩

/-- The elder blocks are as they were. -/
def Kept (h h1 : H) : Prop := h.nx ≤ h1.nx ∧ ∀ b, b < h.nx → h1.get b = h.get b
theorem Kept.refl {h : H} : Kept h h := ⟨Nat.le_refl _, fun _ _ => rfl⟩
theorem Kept.trans {a b c : H} (h : Kept a b) (h' : Kept b c) : Kept a c := ⟨Nat.le_trans h.1 h'.1, fun i hi => (h'.2 i (Nat.lt_of_lt_of_le hi h.1)).trans (h.2 i hi)⟩
theorem Kept.push {h h1 : H} (k : Kept h h1) {x : Blk} : Kept h (h1.push x) := ⟨Nat.le_succ_of_le k.1, fun b hb => by rw [H.get_push, if_neg (by have := k.1; omega)]; exact k.2 b hb⟩
theorem Kept.set {h h1 : H} (k : Kept h h1) {i : Nat} {x : Blk} (hi : h.nx ≤ i) : Kept h (h1.set i x) := ⟨k.1, fun b hb => by rw [H.get_set, if_neg (by omega)]; exact k.2 b hb⟩
theorem Kept.kill {h h1 : H} (k : Kept h h1) {i : Nat} (hi : h.nx ≤ i) : Kept h (h1.kill i) := ⟨k.1, fun b hb => by rw [H.get_kill, if_neg (by omega)]; exact k.2 b hb⟩
theorem Stp.forget {C : Cx} {B : Nat} {e e' : Emb} {h h1 : H} {w w' : World} (s : Sim C B e h w) (st : Stp C B e h w e' h1 w') (hk : Kept h h1) : Stp C B e h w e h w' := by
  refine ⟨Emb.le_refl _, ⟨fun b x hb => ?_, s.inj, s.dom, Nat.le_trans s.low st.grow, s.gl, fun b l x hl hb => st.sim.tab b l x hl ((hk.2 b (s.lt hb)).trans hb)⟩, fun c o => .inr o, fun c o => .inr o, st.keep, st.grow, Nat.le_refl _, st.sky⟩
  obtain ⟨l, hl, hr, hlt, ho⟩ := s.blk b x hb
  obtain ⟨l', hl', hr', _, _⟩ := st.sim.blk b x ((hk.2 b (s.lt hb)).trans hb)
  rw [st.le _ _ hl] at hl'; cases hl'
  exact ⟨l, hl, hr.back st.le hr', Nat.lt_of_lt_of_le hlt st.grow, ho⟩

/-- All that was made is let go. -/
theorem Abs.forget {h h1 : H} {v : V} (hk : Kept h h1) (hp : v.plain = true) : Abs h v h1 v h :=
  fun C B e e' w w' u s hv st => ⟨e, hv.plain hp, st.forget s hk⟩

theorem Abs.eq {h h1 h' : H} {v1 v : V} (hv : v1 = v) (hh : h1 = h') : Abs h v1 h1 v h' := by subst hv; subst hh; exact Abs.refl
theorem Abs.out {h h1 : H} {v1 v : V} (hv : v1 = v) (hp : v.plain = true) (hk : Kept h h1) : Abs h v1 h1 v h := by subst hv; exact Abs.forget hk hp
theorem Abs.trans {h h1 h2 h3 : H} {v1 v2 v3 : V} (a : Abs h v1 h1 v2 h2) (b : Abs h v2 h2 v3 h3) : Abs h v1 h1 v3 h3 := by
  intro C B e e' w w' u s hv st
  obtain ⟨e2, hv2, st2⟩ := a C B e e' w w' u s hv st
  exact b C B e e2 w w' u s hv2 st2

/-! ### What was proved of a function, taken for granted -/
def Prog.add (pr : Prog) (f : Nat) (g : List V → H → Option (V × H)) : Prog := { pr with ext := fun i => if i = f then some g else pr.ext i }
theorem ext_add_same {pr : Prog} {f : Nat} {g : List V → H → Option (V × H)} : (pr.add f g).ext f = some g := by simp [Prog.add]
theorem ext_add_ne {pr : Prog} {f i : Nat} {g : List V → H → Option (V × H)} (h : i ≠ f) : (pr.add f g).ext i = pr.ext i := by simp [Prog.add, h]
theorem ProgOk.add {P : Program} {pr : Prog} (hp : ProgOk P pr) {f : Nat} {af : AFunc} {g : List V → H → Option (V × H)} (hf : pr.fn f = some af)
    (hg : ∀ args h v h', g args h = some (v, h') → wpF pr af args h (fun v1 h1 => Abs h v1 h1 v h')) : ProgOk P (pr.add f g) := by
  refine ⟨hp.fn, ?_, hp.draw⟩
  intro f' g' hf' args h v h' hev B e w cargs F n hv s hF
  by_cases hff : f' = f
  · subst hff
    rw [ext_add_same] at hf'; cases hf'
    obtain ⟨fn, hP, hc⟩ := hp.fn f' af hf
    obtain ⟨hl, m, ex, t', h1, hrun, hres⟩ := hg args h v h' hev
    have hfn : ∃ v1, evFn (runN pr m) (fun b s => iter b m s) af args h = some (v1, h1) ∧ Abs h v1 h1 v h' := by
      cases ex with
      | exit id => exact hres.elim
      | normal =>
        obtain ⟨vs, a, b⟩ := hres
        exact ⟨_, by unfold evFn; rw [if_pos hl, hrun]; simp [a], b⟩
      | ret =>
        obtain ⟨vs, a, b⟩ := hres
        exact ⟨_, by unfold evFn; rw [if_pos hl, hrun]; simp [a], b⟩
    obtain ⟨v1, hrun1, habs⟩ := hfn
    have hR := run_sound hp m
    obtain ⟨h2, h3⟩ := fn_sound hR (hp.draw _ hR) m hP hc hrun1 (F := F) n hv s hF
    refine InvPost.mono h2 ?_
    rintro u w' ⟨e', hu, st⟩
    exact habs _ B e e' w w' u s hu st
  · rw [ext_add_ne hff] at hf'
    exact hp.ext f' g' hf' args h v h' hev B e w cargs F n hv s hF

/-- What 'ExtOk' asks, of one function. -/
def ExtFor (P : Program) (f : Nat) (g : List V → H → Option (V × H)) : Prop := ∀ (args : List V) (h : H) (v : V) (h' : H), g args h = some (v, h') →
  ∀ (B : Nat) (e : Emb) (w : World) (cargs : Array Value) (F : Fence) (n : Nat), VRL e args cargs.toList → Sim (CC P) B e h w → wideF F → InvPost F n P (CallPost P B e h w v h') ((Go.callFunc f cargs).run P w)
theorem ProgOk.addFor {P : Program} {pr : Prog} (hp : ProgOk P pr) {f : Nat} {g : List V → H → Option (V × H)} (hg : ExtFor P f g) : ProgOk P (pr.add f g) := by
  refine ⟨hp.fn, ?_, hp.draw⟩
  intro f' g' hf' args h v h' hev B e w cargs F n hv s hF
  by_cases hff : f' = f
  · subst hff
    rw [ext_add_same] at hf'; cases hf'
    exact hg args h v h' hev B e w cargs F n hv s hF
  · rw [ext_add_ne hff] at hf'
    exact hp.ext f' g' hf' args h v h' hev B e w cargs F n hv s hF

/-- A function that takes nothing and that the machine runs on the empty heap. -/
def xConst (v : V) (args : List V) (h : H) : Option (V × H) :=
  match args with
  | [] => some (v, h)
  | _ => none
theorem ExtFor.closed {P : Program} {pr : Prog} (hp : ProgOk P pr) {n f : Nat} {v : V} {h1 : H} (hx : pr.ext f = none) (hrun : runN pr n (.fn f) [] ⟨4096, .e⟩ = some (v, h1)) (hpl : v.plain = true) : ExtFor P f (xConst v) := by
  intro args h v' h' hev B e w cargs F k hv s hF
  unfold xConst at hev
  split at hev
  · cases hev
    have hno : ∀ b x, (⟨4096, .e⟩ : H).get b = some x → False := fun b x hb => by simp [H.get, Tr.get] at hb
    have s0 : Sim (CC P) w.heap.size (glOf P) ⟨4096, .e⟩ w := ⟨fun b x hb => (hno b x hb).elim, fun b _ x _ _ _ hb => (hno b x hb).elim, fun b l h => glOf_lt h, Nat.le_refl _, fun _ _ h => h, .no hno⟩
    obtain ⟨cargs⟩ := cargs
    cases hv
    cases n with
    | zero => cases hrun
    | succ n =>
      simp only [runN, evCal, hx] at hrun
      cases hf : pr.fn f with
      | none => rw [hf] at hrun; cases hrun
      | some af =>
        rw [hf] at hrun
        obtain ⟨fn, hP, hc⟩ := hp.fn f af hf
        have hR := run_sound hp n
        obtain ⟨h2, _⟩ := fn_sound hR (hp.draw _ hR) n hP hc hrun (F := F) k .nil s0 hF
        refine InvPost.mono h2 ?_
        rintro u w' ⟨e', hu, st⟩
        refine ⟨e, hu.plain hpl, Stp.more s (fun c hc => st.keep c hc ?_) st.grow st.sky⟩
        rintro ⟨b, x, l, hb, _⟩
        exact hno b x hb
  · cases hev
theorem closed_of_yes {P : Program} {pr : Prog} (hp : ProgOk P pr) {n f : Nat} (hx : pr.ext f = none) (hrun : yes (runN pr n (.fn f) [] ⟨4096, .e⟩) = true) : ExtFor P f (xConst (.b true)) := by
  obtain ⟨h', hr⟩ := yes_some hrun
  exact ExtFor.closed hp hx hr rfl

/-- A law that takes nothing, and that the machine answers by true. -/
theorem closed_callsOk {P : Program} {pr : Prog} (hp : ProgOk P pr) {n f : Nat} (hx : pr.ext f = none) (h : yes (runN pr n (.fn f) [] ⟨4096, .e⟩) = true) (w : World) : Go.Calls P f #[] w fun E w' => E = .returned (.bool true) ∧ Go.RowKit.Below w.heap.size w w' := by
  obtain ⟨h', hr⟩ := yes_some h
  have hno : ∀ b x, (⟨4096, .e⟩ : H).get b = some x → False := fun b x hb => by simp [H.get, Tr.get] at hb
  have := calls_of_run hp (e := glOf P) (w := w) (cargs := #[]) hx hr .nil ⟨fun b x hb => (hno b x hb).elim, fun b _ x _ _ _ hb => (hno b x hb).elim, fun b l h => glOf_lt h, Nat.le_refl _, fun _ _ h => h, .no hno⟩ (fun b x hb => (hno b x hb).elim)
  refine this.mono ?_
  rintro E w' ⟨u, e', rfl, hu, hb⟩
  cases hu
  exact ⟨rfl, hb⟩

end Am

/- AmArgs: arguments, as a row's frame reads them, laid into the machine's heap as blocks that are only read. -/
namespace Am
set_option linter.unusedVariables false
set_option linter.unusedSimpArgs false
open Go (IntKind BinOp UnOp Value Program TypeId TypeDesc Operand Oper Code Tmp World Addr Obj Act Fence DataW MemPlace Lit)

/-- Plain data. 'nl': a nil slice; 'bs': a slice of bytes. -/
inductive Dt where
  | b (x : Bool)
  | i (k : IntKind) (n : Int)
  | s (l : List UInt8)
  | st (xs : List Dt)
  | nl
  | sl (k : Nat) (xs : List Dt)
  | bs (l : List UInt8)

inductive Ty where
  | b
  | i (k : IntKind)
  | s
  | st (ts : List Ty)
  | sl (k : Nat) (e : Ty)
  | bs

mutual
def Dt.lay : Dt → H → List V × H
  | .b x, h => ([.b x], h)
  | .i k n, h => ([.i k n], h)
  | .s l, h => ([.s l], h)
  | .st xs, h => Dt.layL xs h
  | .nl, h => ([.sl none 0 0 true], h)
  | .sl k xs, h =>
    ([.sl (some ((Dt.layR xs h).2.nx, 0)) xs.length xs.length false], if xs.isEmpty then ⟨(Dt.layR xs h).2.nx + 1, (Dt.layR xs h).2.tr⟩ else (Dt.layR xs h).2.push (.rows k (Dt.layR xs h).1 true))
  | .bs l, h => ([.sl (some (h.nx, 0)) l.length l.length false], if l.isEmpty then ⟨h.nx + 1, h.tr⟩ else h.push (.bytes l true))
def Dt.layL : List Dt → H → List V × H
  | [], h => ([], h)
  | x :: xs, h => ((x.lay h).1 ++ (Dt.layL xs (x.lay h).2).1, (Dt.layL xs (x.lay h).2).2)
def Dt.layR : List Dt → H → List (List V) × H
  | [], h => ([], h)
  | x :: xs, h => ((x.lay h).1 :: (Dt.layR xs (x.lay h).2).1, (Dt.layR xs (x.lay h).2).2)
end

mutual
def Dt.has : Ty → Dt → Prop
  | .b, .b _ => True
  | .i k, .i k' n => k' = k ∧ k.min ≤ n ∧ n ≤ k.max
  | .s, .s l => l.length ≤ Go.maxLen
  | .st ts, .st xs => Dt.hasL ts xs
  | .sl _ _, .nl => True
  | .sl k e, .sl k' xs => k' = k ∧ xs.length ≤ Go.maxLen ∧ Dt.hasA e xs
  | .bs, .nl => True
  | .bs, .bs l => l.length ≤ Go.maxLen
  | _, _ => False
def Dt.hasL : List Ty → List Dt → Prop
  | [], [] => True
  | t :: ts, x :: xs => Dt.has t x ∧ Dt.hasL ts xs
  | _, _ => False
def Dt.hasA : Ty → List Dt → Prop
  | _, [] => True
  | e, x :: xs => Dt.has e x ∧ Dt.hasA e xs
end

mutual
def Ty.size : Ty → Nat
  | .st ts => Ty.sizes ts
  | _ => 1
def Ty.sizes : List Ty → Nat
  | [] => 0
  | t :: ts => t.size + Ty.sizes ts
end

variable {P : Program} {C : Cx} {B : Nat} {e : Emb} {h : H} {w : World}

/-- All that is there is only read. -/
def Ro (h : H) : Prop := ∀ b x, h.get b = some x → x.own = false

/-- A block that is only read, laid. -/
theorem Sim.lay (s : Sim C B e h w) (x : Blk) (l : Loc) (ho : x.own = false) (hlt : l.cb < w.heap.size) (hx : BlkR C (e.add h.nx l) x l w) (hro : Ro h) : Sim C B (e.add h.nx l) (h.push x) w := by
  have hle : e.le (e.add h.nx l) := Emb.le_add l s.fresh
  have old : ∀ c y m, h.get c = some y → e.add h.nx l c = some m → e c = some m := by
    intro c y m hc hm
    have hne : c ≠ h.nx := Nat.ne_of_lt (s.lt hc)
    simpa [Emb.add, hne] using hm
  have gp : ∀ c y, (h.push x).get c = some y → (c = h.nx ∧ y = x) ∨ (c ≠ h.nx ∧ h.get c = some y) := by
    intro c y hc
    rw [H.get_push] at hc
    by_cases hcn : c = h.nx
    · rw [if_pos hcn] at hc; exact .inl ⟨hcn, (Option.some.inj hc).symm⟩
    · rw [if_neg hcn] at hc; exact .inr ⟨hcn, hc⟩
  refine ⟨fun c y hc => ?_, fun c c' y y' m m' hc hc' hy => ?_, fun c m hm => ?_, s.low, fun c m hm => hle _ _ (s.gl c m hm), s.tab.of fun c m y hm hc => ?_⟩
  · rcases gp c y hc with ⟨rfl, rfl⟩ | ⟨hne, hc'⟩
    · exact ⟨l, Emb.add_same _ _ _, hx, hlt, fun ho' => by rw [ho] at ho'; cases ho'⟩
    · obtain ⟨m, hm, hr, hlt', ho'⟩ := s.blk c y hc'
      exact ⟨m, hle _ _ hm, hr.mono hle, hlt', ho'⟩
  · rcases gp c y hc with ⟨rfl, rfl⟩ | ⟨hne, hc1⟩
    · rw [ho] at hy; cases hy
    · rw [hro c y hc1] at hy; cases hy
  · unfold Emb.add at hm
    show c < h.nx + 1
    by_cases hcn : c = h.nx
    · omega
    · rw [if_neg hcn] at hm; have := s.dom c m hm; omega
  · rcases gp c y hc with ⟨rfl, rfl⟩ | ⟨hne, hc1⟩
    · exact absurd (s.gl_lt hm) (Nat.lt_irrefl _)
    · exact ⟨hc1, rfl⟩
/-- A number that names nothing. -/
theorem Sim.skip (s : Sim C B e h w) (l : Loc) : Sim C B (e.add h.nx l) ⟨h.nx + 1, h.tr⟩ w := by
  have hle : e.le (e.add h.nx l) := Emb.le_add l s.fresh
  have old : ∀ c y m, h.get c = some y → e.add h.nx l c = some m → e c = some m := by
    intro c y m hc hm
    have hne : c ≠ h.nx := Nat.ne_of_lt (s.lt hc)
    simpa [Emb.add, hne] using hm
  refine ⟨fun c y hc => ?_, fun c c' y y' m m' hc hc' hy hne hm hm' => s.inj c c' y y' m m' hc hc' hy hne (old c y m hc hm) (old c' y' m' hc' hm'), fun c m hm => ?_, s.low, fun c m hm => hle _ _ (s.gl c m hm), s.tab.of fun c m y hm hc => ⟨hc, rfl⟩⟩
  · obtain ⟨m, hm, hr, hlt', ho'⟩ := s.blk c y hc
    exact ⟨m, hle _ _ hm, hr.mono hle, hlt', ho'⟩
  · unfold Emb.add at hm
    show c < h.nx + 1
    by_cases hcn : c = h.nx
    · omega
    · rw [if_neg hcn] at hm; have := s.dom c m hm; omega

/-! ### A reading -/
end Am

/- AmLaw: a law with arguments, from what must hold ahead of its code to a call of the model. -/
namespace Am
set_option linter.unusedVariables false
set_option linter.unusedSimpArgs false
open Go (IntKind BinOp UnOp Value Program TypeId TypeDesc Operand Oper Code Tmp World Addr Obj Act Fence DataW MemPlace Lit)

/-- An argument laid: a struct is one value. -/
def Dt.arg (x : Dt) (h : H) : V × H :=
  match x with
  | .st xs => (.agg (Dt.layL xs h).1, (Dt.layL xs h).2)
  | .b x => (.b x, h)
  | .i k n => (.i k n, h)
  | .s l => (.s l, h)
  | .nl => (.sl none 0 0 true, h)
  | .sl k xs => (.sl (some ((Dt.layR xs h).2.nx, 0)) xs.length xs.length false, (Dt.lay (.sl k xs) h).2)
  | .bs l => (.sl (some (h.nx, 0)) l.length l.length false, (Dt.lay (.bs l) h).2)
def Dt.args : List Dt → H → List V × H
  | [], h => ([], h)
  | x :: xs, h => ((x.arg h).1 :: (Dt.args xs (x.arg h).2).1, (Dt.args xs (x.arg h).2).2)
variable {P : Program}

/-- The heap that arguments are laid into. -/
def h0 : H := ⟨4096, .e⟩

/-! ### Data of a type -/
end Am

/- AmExt: functions of the library that have no text: what they answer. -/
namespace Am
set_option linter.unusedVariables false
set_option linter.unusedSimpArgs false
open Go (IntKind BinOp UnOp Value Program TypeId TypeDesc Operand Oper Code Tmp World Addr Obj Act Fence)

/-- Where a byte stands first. -/
def fIdx (l : List UInt8) (c : UInt8) : Int :=
  match l.findIdx? (fun b => b == c) with
  | some i => i
  | none => -1

theorem range_find (c : UInt8) : ∀ (l : List UInt8), (List.range l.length).find? (fun i => l.getD i 0 == c) = l.findIdx? (fun b => b == c)
  | [] => rfl
  | b :: l => by
    rw [List.length_cons, List.range_succ_eq_map, List.find?_cons, List.findIdx?_cons]
    by_cases h : b == c
    · simp [h]
    · simp only [List.getD_cons_zero, h]
      rw [List.find?_map, ← range_find c l]
      simp only [Function.comp_def, Nat.succ_eq_add_one, List.getD_cons_succ]
      rfl

theorem firstIdx_list (s : ByteArray) (c : UInt8) : Go.firstIdx s c = fIdx s.data.toList c := by
  unfold Go.firstIdx fIdx
  rw [← range_find c s.data.toList]
  have h1 : s.size = s.data.toList.length := rfl
  have h2 : ∀ i, s[i]! = s.data.toList.getD i 0 := fun i => by
    rw [List.getD_eq_getElem?_getD, Array.getElem?_toList]
    by_cases h : i < s.size
    · rw [getElem!_pos s i h]
      have : i < s.data.size := h
      rw [Array.getElem?_eq_getElem this]
      rfl
    · rw [getElem!_neg s i h]
      have : ¬ i < s.data.size := h
      rw [Array.getElem?_eq_none (by omega)]
      rfl
  rw [h1]
  simp only [h2]
  rfl

def xIndexByte (args : List V) (h : H) : Option (V × H) :=
  match args with
  | [.s l, .i .u8 c] => some (.i .i64 (fIdx l c.toNat.toUInt8), h)
  | _ => none

/-- What 'ExtOk' asks, of one function. -/
def ExtAt (P : Program) (f : Nat) (g : List V → H → Option (V × H)) : Prop := ∀ (args : List V) (h : H) (v : V) (h' : H), g args h = some (v, h') →
  ∀ (B : Nat) (e : Emb) (w : World) (cargs : Array Value) (F : Fence) (n : Nat), VRL e args cargs.toList → Sim (CC P) B e h w → wideF F → InvPost F n P (CallPost P B e h w v h') ((Go.callFunc f cargs).run P w)

theorem indexByte_ok {P : Program} {f : Nat} {fn : Go.Func} (hf : P.funcs[f]? = some fn) (hname : (fn.name == "runtime.NumGoroutine") = false) (hb : fn.body.isNone = true) (hn : Go.Extern.findNext fn = none) (he : Go.Extern.find fn = some Go.Extern.BytealgIndexByte.indexByte) : ExtAt P f xIndexByte := by
  intro args h v h' hev B e w cargs F n hv s hF
  unfold xIndexByte at hev
  split at hev
  · rename_i l c
    cases hev
    obtain ⟨ws⟩ := cargs
    cases hv with
    | cons _ u _ us h1 h2 =>
      cases h2 with
      | cons _ u2 _ us2 h3 h4 =>
        cases h4
        obtain ⟨b, rfl, rfl⟩ := h1.s_inv
        obtain rfl := h3.i_inv
        rw [Go.run_callFunc_extern hf hname hb hn he]
        have hr := Go.run_indexByte_string (P := P) b c w
        rw [show (⟨[Value.string b, Value.int .u8 c]⟩ : Array Value) = #[Value.string b, Value.int .u8 c] from rfl, hr]
        simp only [Go.Result.andThen, InvPost]
        rw [firstIdx_list]
        exact ⟨e, .i _ _, Stp.refl s⟩
  · cases hev

end Am

