/- AmOps7: the other builtins; every operation as one theorem. -/
import Derived.Test.YtibmhhdgcbaofaaDoorAmOps6
namespace Am
set_option linter.unusedVariables false
set_option linter.unusedSimpArgs false
open Go (IntKind BinOp UnOp Value Program TypeId TypeDesc Operand Oper Code Tmp World Addr Obj Act)

variable {P : Program} {C : Cx} {B : Nat} {e e' : Emb} {h h' : H} {w w' : World} {t : Tm} {ρ : Operand → Value} {o : Oper} {v : V}

theorem wrap_id (n : Int) (h1 : 0 ≤ n) (h2 : n ≤ 140737488355328) : IntKind.i64.wrap n = n := by
  unfold Go.IntKind.wrap
  dsimp only [Go.IntKind.bits, Go.IntKind.signed]
  rw [Int.emod_eq_of_lt h1 (by omega)]
  have h3 : ¬ (n ≥ 2 ^ (64 - 1)) := by omega
  simp only [h3, decide_false, Bool.and_false, Bool.false_eq_true, if_false]

theorem zero_any {el : TypeId} {z : List V} (hz : zeroT P el = some z) : ∃ zv, (∀ w : World, (Go.zeroValue el).run P w = .ok zv w) ∧ ∀ e, VRL e z zv.cells.toList := by
  unfold zeroT at hz
  obtain ⟨v0, hv0, hx⟩ := Option.bind_eq_some_iff.1 hz
  obtain ⟨i, hi, hv0⟩ := Option.bind_eq_some_iff.1 hv0
  exact ⟨v0, fun w => by simp [Go.zeroValue, Go.typeInfo, hi, hv0], fun e => ofFlats_sound hx⟩

theorem zeroCells_list {z : List V} {zc : Array Value} (hz : VRL e z zc.toList) (hfl : z.all V.flat = true) (n : Nat) : VRR e z.length (List.replicate n z) (Go.Builtin.zeroCells zc n).toList := by
  have hs : zc.size = z.length := by have := hz.length; simp at this; omega
  have := zrow hz rfl hfl n (fun q => zc[q % zc.size]!) (fun q _ => by rw [hs])
  simp only [Go.Builtin.zeroCells, hs] at *
  simpa using this

theorem zero_bytes {z : List V} (hz : z = [.i .u8 0]) (n : Nat) : bytesOf (List.replicate n z).flatten = some (List.replicate n 0) := by
  subst hz
  induction n with
  | zero => rfl
  | succ n ih =>
    simp only [List.replicate_succ, List.flatten_cons, List.singleton_append, bytesOf, ih]
    rfl

/-! ### append of what make would make -/
theorem append0_unfold {ty u el : TypeId} {k bytes : Nat} {base : Option Addr} {sLen sCap : Nat} {m : Int} {ats : Array TypeId} {rt : TypeId} {ut : TypeDesc} (h0 : ats[0]? = some ty) (h1 : ats[1]? = some u) (hd : P.underlying ty = some (.slice el)) (hk : szOf P el = some k)
    (hu : P.underlying u = some ut) (hz : isI ut = true) (hby : bytesOfT P el = some bytes) (hm0 : 0 ≤ m) (hm : m ≤ 140737488355328) (hmb : m * bytes ≤ 140737488355328) :
    (Go.Builtin.append_ ats rt #[.slice base sLen sCap, .int .i64 m]).run P w =
      (appCore el k base sLen sCap m.toNat true (.int .i64 m) (if m.toNat * k = 0 then pure #[] else do pure (Go.Builtin.zeroCells (← Go.zeroValue el).cells m.toNat))).run P w := by
  obtain ⟨i, hi, hib⟩ : ∃ i, P.info? el = some i ∧ i.bytes = bytes := Option.map_eq_some_iff.1 hby
  unfold Go.Builtin.append_
  simp only [h0, h1, show (#[Value.slice base sLen sCap, .int .i64 m] : Array Value)[0]? = some (.slice base sLen sCap) from rfl, show (#[Value.slice base sLen sCap, .int .i64 m] : Array Value)[1]? = some (.int .i64 m) from rfl]
  rw [Go.Sem.run_bind, Go.run_underlying hd]
  dsimp only [Go.Result.andThen]
  rw [Go.Sem.run_bind, run_sz hk]
  dsimp only [Go.Result.andThen]
  rw [Go.Sem.run_bind, Go.run_underlying hu]
  dsimp only [Go.Result.andThen]
  rw [Go.Sem.run_bind, Go.Sem.run_pure]
  dsimp only [Go.Result.andThen]
  have key : ∀ z : Bool, z = true → (Go.Sem.run P (do
      let n ← if z then do
          let l := IntKind.i64.wrap (← Go.asInt (.int .i64 m))
          if l < 0 then Go.runtimePanic (.error "makeslice: len out of range")
          if l * (← Go.typeInfo el).bytes > 2 ^ 48 then
            let made ← Go.choose (.extern "append.ofMake.carriedOut" 2)
            Go.runtimePanic (.error (if made == 1 then "makeslice: len out of range" else "growslice: len out of range"))
          pure l.toNat
        else Go.Builtin.lenOf (.int .i64 m)
      appCore el k base sLen sCap n z (.int .i64 m) (if !z then Go.Builtin.firstCells k n (.int .i64 m) else if n * k = 0 then pure #[] else do pure (Go.Builtin.zeroCells (← Go.zeroValue el).cells n))) w) =
        (appCore el k base sLen sCap m.toNat true (.int .i64 m) (if m.toNat * k = 0 then pure #[] else do pure (Go.Builtin.zeroCells (← Go.zeroValue el).cells m.toNat))).run P w := by
    intro z hz
    subst hz
    have g1 : ¬ (m < 0) := by omega
    have g2 : ¬ (m * (bytes : Int) > 2 ^ 48) := by omega
    simp only [if_true, Go.Sem.run_bind, Go.asInt, Go.asIntOf, Go.Sem.run_pure, Go.Result.andThen_ok, wrap_id m hm0 hm, run_info hi, hib, g1, g2, if_false]
    rfl
  exact (show _ = _ from rfl).trans (key (isI ut) hz)

theorem op_app0 {c : Go.Call} {ty u el : TypeId} {ts : List TypeId} {S X : AOpd} {k bytes : Nat} {by_ : Bool} {z : List V} (ho : o.op = .call c) (hb : c.callee = .builtin .append) (s : Sim C B e h w) (hρ : OpdR e t ρ) (hts : c.argTypes.toList = ty :: u :: ts)
    (has : opds c.args.toList = some [S, X]) (hd : P.underlying ty = some (.slice el)) (hk : szOf P el = some k) (hby : bytesOfT P el = some bytes) (hzs : isIntT P u = some true) (hz : zeroT P el = some z) (hzk : z.length = k) (hk0 : k ≠ 0)
    (hb1 : by_ = true → z = [.i .u8 0]) (hev : (AOp.app0 by_ z bytes S X).ev t.ev h = some (v, h')) : OpRes .eff C B e h w ((Go.execOp ρ o).run P w) v h' := by
  simp only [AOp.ev] at hev
  obtain ⟨sx, xx, hargs, vs, vx⟩ := two_args hρ has
  have h0 := types0 hts
  have h1 := types1 hts
  obtain ⟨ut, hut, hum⟩ := isInt_desc hzs
  obtain ⟨zv, hzr, hzv⟩ := zero_any hz
  have hzsz : zv.cells.size = k := by have := (hzv e).length; simp at this; omega
  have fin : ∀ {r : Value} {w' : World}, (Go.Builtin.append_ c.argTypes o.type #[ρ sx, ρ xx]).run P w = .ok r w' → (Go.execOp ρ o).run P w = .ok (.value r) w' := fun hr => run_builtin ho hb hr fun xs => by
    rw [hargs]
    have : (#[sx, xx] : Array Operand).map ρ = #[ρ sx, ρ xx] := by simp
    rw [this]
    rfl
  split at hev
  · rename_i a len cap ex m hp hq
    rw [hp] at vs; rw [hq] at vx
    have hxm := vx.i_inv
    split at hev
    · rename_i hc
      obtain ⟨hm0, hbp, hmb, hzne, hflat⟩ := hc
      have hfl := zeroT_flat hz
      have hbytes : 0 < bytes → m ≤ 140737488355328 := by
        intro hpos
        have h1 : m * 1 ≤ m * (bytes : Int) := Int.mul_le_mul_of_nonneg_left (by omega) hm0
        omega
      have hrows : VRR e k (List.replicate m.toNat z) (Go.Builtin.zeroCells zv.cells m.toNat).toList := by
        have := zeroCells_list (hzv e) hfl m.toNat
        rw [hzk] at this; exact this
      have happ0 : ∀ w2 : World, w2.heap = w.heap → (if m.toNat * k = 0 then pure #[] else do pure (Go.Builtin.zeroCells (← Go.zeroValue el).cells m.toNat) : Go.Sem (Array Value)).run P w2 =
          .ok (Go.Builtin.zeroCells zv.cells m.toNat).toList.toArray w2 := by
        intro w2 _
        by_cases hn : m.toNat * k = 0
        · rw [if_pos hn]
          have : (Go.Builtin.zeroCells zv.cells m.toNat).toList = [] := by
            apply List.length_eq_zero_iff.1
            simp [zeroCells_size, hzsz, hn]
          rw [this]; rfl
        · rw [if_neg hn]
          simp [hzr w2]
      -- an append's own bound tells that an element has bytes, or nothing is appended
      split at hev
      · rename_i hbt
        split at hev
        · have hzb := hb1 hbt
          have hk1 : k = 1 := by rw [← hzk, hzb]; rfl
          have hcells := bytesOf_sound (zero_bytes hzb m.toNat) (flatten_rows hrows)
          obtain ⟨A, c0, r, w', e', hs, hrun, hvr, hst⟩ := appBytes_sound (P := P) (zeros := true) (x := .int .i64 m) s hev vs hby hzr (by rw [hzsz, hk1]) (fun w2 hw2 => by rw [happ0 w2 hw2, hcells])
          refine ⟨r, w', e', .inl (fin ?_), hvr, hst⟩
          rw [hs, hxm, append0_unfold h0 h1 hd hk hut hum hby hm0 (hbytes hbp) hmb]
          simp only [List.length_replicate] at hrun
          rw [← hk1] at hrun
          exact hrun
        · simp at hev
      · rw [hzk] at hev
        obtain ⟨A, c0, r, w', e', hs, hrun, hvr, hst⟩ := appRows_sound (P := P) (zeros := true) (x := .int .i64 m) s hev vs hrows (by omega) hby hzr hzsz happ0
        refine ⟨r, w', e', .inl (fin ?_), hvr, hst⟩
        rw [hs, hxm, append0_unfold h0 h1 hd hk hut hum hby hm0 (hbytes hbp) hmb]
        simp only [List.length_replicate] at hrun
        exact hrun
    · simp at hev
  · simp at hev

/-! ### copy, clear -/
theorem op_copy {c : Go.Call} {ty el : TypeId} {ts : List TypeId} {D S : AOpd} {k : Nat} {by_ : Bool} (ho : o.op = .call c) (hb : c.callee = .builtin .copy) (s : Sim C B e h w) (hρ : OpdR e t ρ) (hts : c.argTypes.toList = ty :: ts)
    (has : opds c.args.toList = some [D, S]) (hd : P.underlying ty = some (.slice el)) (hk : szOf P el = some k) (hb1 : by_ = true → k = 1) (hev : (AOp.copy by_ k D S).ev t.ev h = some (v, h')) : OpRes .eff C B e h w ((Go.execOp ρ o).run P w) v h' := by
  simp only [AOp.ev] at hev
  obtain ⟨dx, sx, hargs, vd, vs⟩ := two_args hρ has
  have h0 := types0 hts
  have fin : ∀ {r : Value} {w' : World}, (Go.Builtin.copy_ c.argTypes o.type #[ρ dx, ρ sx]).run P w = .ok r w' → (Go.execOp ρ o).run P w = .ok (.value r) w' := fun hr => run_builtin ho hb hr fun xs => by
    rw [hargs]
    have : (#[dx, sx] : Array Operand).map ρ = #[ρ dx, ρ sx] := by simp
    rw [this]
    rfl
  -- what the model does
  have core : ∀ {A : Option Addr} {len cp n m : Nat} {us : List Value} {w' : World}, ρ dx = .slice A len cp → (Go.Builtin.lenOf (ρ sx)).run P w = .ok n w → m = Nat.min n len → (Go.Builtin.firstCells k m (ρ sx)).run P w = .ok us.toArray w →
      (match A with | some a => (Go.storeCells (a.add (0 * k)) us).run P w | none => .ok () w) = .ok () w' → (Go.execOp ρ o).run P w = .ok (.value (.int .i64 (m : Nat))) w' := by
    intro A len cp n m us w' hA hn hm hc hst
    refine fin ?_
    subst hm
    unfold Go.Builtin.copy_
    simp only [h0, hA, show (#[Value.slice A len cp, ρ sx] : Array Value)[0]? = some (Value.slice A len cp) from rfl, show (#[Value.slice A len cp, ρ sx] : Array Value)[1]? = some (ρ sx) from rfl, Go.Sem.run_bind, Go.run_underlying hd, Go.Result.andThen_ok, hn, run_sz hk, hc]
    cases A with
    | none => simp only at hst; cases hst; simp [Go.goInt]
    | some a =>
      simp only [Nat.zero_mul] at hst
      have ha : a.add 0 = a := by simp [Addr.add]
      rw [ha] at hst
      simp [hst, Go.goInt]
  split at hev
  · rename_i a len cp ex a' n cp' ex' hp hq
    rw [hp] at vd; rw [hq] at vs
    have hmin : Nat.min n len ≤ n := Nat.min_le_left _ _
    have hmin2 : Nat.min n len ≤ len := Nat.min_le_right _ _
    have hlc : len ≤ cp := by
      generalize ρ dx = u at vd
      cases vd with
      | sl0 => omega
      | sl => assumption
    split at hev
    · rename_i hbt
      have hk1 := hb1 hbt
      obtain ⟨bs, hbs, hev⟩ := Option.bind_eq_some_iff.1 hev
      obtain ⟨h2, hput, hev⟩ := Option.bind_eq_some_iff.1 hev
      cases hev
      obtain ⟨hbl, A', c', hx, hlies⟩ := bseg_sound s hbs vs hmin
      obtain ⟨A, c0, w', hA, hst, hstp⟩ := bput_sound (P := P) s hput vd (by omega)
      refine ⟨.int .i64 (Nat.min n len : Nat), w', e, .inl (core (us := bcells bs) hA (n := n) (by rw [hx]; rfl) rfl ?_ ?_), .i _ _, hstp⟩
      · rw [hx, hk1]; exact first_bytes _ hbl hlies
      · rw [hk1]; cases A <;> simpa using hst
    · obtain ⟨rs, hrs, hev⟩ := Option.bind_eq_some_iff.1 hev
      obtain ⟨h2, hput, hev⟩ := Option.bind_eq_some_iff.1 hev
      cases hev
      obtain ⟨hrl, us, A', c', hus, hx, hlies⟩ := rseg_sound s hrs vs hmin
      obtain ⟨A, c0, w', hA, hst, hstp⟩ := rput_sound (P := P) s hput vd hus (by omega)
      refine ⟨.int .i64 (Nat.min n len : Nat), w', e, .inl (core (us := us) hA (n := n) (by rw [hx]; rfl) rfl ?_ (by cases A <;> exact hst)), .i _ _, hstp⟩
      rw [hx]; exact first_rows _ (by rw [hus.len, hrl]) hlies
  · rename_i a len cp ex l hp hq
    rw [hp] at vd; rw [hq] at vs
    have hlc : len ≤ cp := by
      generalize ρ dx = u at vd
      cases vd with
      | sl0 => omega
      | sl => assumption
    split at hev
    · rename_i hbt
      have hk1 := hb1 hbt
      obtain ⟨h2, hput, hev⟩ := Option.bind_eq_some_iff.1 hev
      cases hev
      obtain ⟨b', hb', hl⟩ := vs.s_inv
      have hsz : b'.size = l.length := by rw [← hl]; exact Array.length_toList.symm
      have hmin2 : Nat.min l.length len ≤ len := Nat.min_le_right _ _
      obtain ⟨A, c0, w', hA, hst, hstp⟩ := bput_sound (P := P) s hput vd (by simp; omega)
      refine ⟨.int .i64 (Nat.min l.length len : Nat), w', e, .inl (core (us := bcells (l.take (Nat.min l.length len))) hA (n := l.length) (by rw [hb']; simp [Go.Builtin.lenOf, hsz]) rfl ?_ ?_), .i _ _, hstp⟩
      · rw [hb']
        simp only [Go.Builtin.firstCells, Go.Sem.run_pure]
        congr 1
        apply Array.toList_inj.1
        rw [← hl]
        simp [bcells, ByteArray.data_extract, List.map_take]
      · rw [hk1]; cases A <;> simpa using hst
    · simp at hev
  · simp at hev

theorem op_clear {c : Go.Call} {ty el : TypeId} {ts : List TypeId} {X : AOpd} {by_ : Bool} {z : List V} (ho : o.op = .call c) (hb : c.callee = .builtin .clear) (s : Sim C B e h w) (hρ : OpdR e t ρ) (hts : c.argTypes.toList = ty :: ts)
    (has : opds c.args.toList = some [X]) (hd : P.underlying ty = some (.slice el)) (hz : zeroT P el = some z) (hb1 : by_ = true → z = [.i .u8 0]) (hev : (AOp.clearS by_ z X).ev t.ev h = some (v, h')) : OpRes .eff C B e h w ((Go.execOp ρ o).run P w) v h' := by
  simp only [AOp.ev] at hev
  obtain ⟨X', xs, hX, vx, hxs⟩ := first_arg hρ has
  have h0 := types0 hts
  have h1 := args0 (ρ := ρ) hX
  obtain ⟨zv, hzr, hzv⟩ := zero_any hz
  have hfl := zeroT_flat hz
  split at hev
  · rename_i a n cp ex hp
    rw [hp] at vx
    split at hev
    · simp at hev
    · have core : ∀ {A : Option Addr} {c0 : Nat} {w' : World}, ρ X' = .slice A n c0 → (A = none → n = 0) → (match A with | some a => (Go.storeCells a (Go.Builtin.zeroCells zv.cells n).toList).run P w | none => .ok () w) = .ok () w' →
          (Go.execOp ρ o).run P w = .ok (.value (.tuple #[])) w' := by
        intro A c0 w' hA hA0 hst
        refine run_builtin ho hb (s := Go.Builtin.clear_ c.argTypes o.type (c.args.map ρ)) ?_ fun _ => rfl
        unfold Go.Builtin.clear_
        simp only [h0, h1, hA, Go.Sem.run_bind, Go.run_underlying hd, Go.Result.andThen_ok]
        cases A with
        | none => simp only at hst; cases hst; simp
        | some a =>
          simp only at hst
          cases n with
          | zero =>
            have : (Go.Builtin.zeroCells zv.cells 0).toList = [] := by simp [Go.Builtin.zeroCells]
            rw [this] at hst
            cases hst
            simp
          | succ n => simp [hzr, hst]
      have hA0 : ∀ {A : Option Addr} {c0 : Nat}, ρ X' = .slice A n c0 → A = none → n = 0 := by
        intro A c0 hA hAn
        rw [hA, hAn] at vx
        cases vx; rfl
      have hnc : n ≤ cp := by
        generalize ρ X' = u at vx
        cases vx with
        | sl0 => omega
        | sl => assumption
      have hrows := zeroCells_list (hzv e) hfl n
      split at hev
      · rename_i hbt
        split at hev
        · have hzb := hb1 hbt
          obtain ⟨h2, hput, hev⟩ := Option.bind_eq_some_iff.1 hev
          cases hev
          have hcells := bytesOf_sound (zero_bytes hzb n) (flatten_rows hrows)
          obtain ⟨A, c0, w', hA, hst, hstp⟩ := bput_sound (P := P) s hput vx (by simp; omega)
          refine ⟨_, w', e, .inl (core hA (hA0 hA) ?_), VR.un, hstp⟩
          rw [hcells]
          cases A with
          | none => simpa using hst
          | some ad =>
            have ha : ad.add 0 = ad := by simp [Addr.add]
            simp only [ha] at hst
            exact hst
        · simp at hev
      · obtain ⟨h2, hput, hev⟩ := Option.bind_eq_some_iff.1 hev
        cases hev
        obtain ⟨A, c0, w', hA, hst, hstp⟩ := rput_sound (P := P) s hput vx hrows (by simp; omega)
        refine ⟨_, w', e, .inl (core hA (hA0 hA) ?_), VR.un, hstp⟩
        cases A with
        | none => simpa using hst
        | some ad =>
          have ha : ad.add (0 * z.length) = ad := by simp [Addr.add]
          simp only [ha] at hst
          exact hst
  · simp at hev

/-! ### min, max -/
theorem minV_sound {f : Int → Int → Int} {g : Value → Value → Go.Sem Value} (hg : ∀ k x y, g (.int k x) (.int k y) = pure (.int k (f x y))) : ∀ {xs : List V} {x : V} {u : Value} {us : List Value}, VR e x u → VRL e xs us → minV f x xs = some v → ∃ r, (us.foldlM g u).run P w = .ok r w ∧ VR e v r
  | [], x, u, us, hx, hxs, h => by
    simp [minV] at h; subst h
    cases hxs
    exact ⟨u, rfl, hx⟩
  | y :: ys, x, u, us, hx, hxs, h => by
    cases hxs with
    | cons _ uy _ uys hy hys =>
      cases x with
      | i k a =>
        cases y with
        | i k' b =>
          have hx2 := hx.i_inv
          have hy2 := hy.i_inv
          unfold minV at h
          split at h
          · rename_i hk
            subst hk
            subst hx2 hy2
            obtain ⟨r, hr, hv⟩ := minV_sound hg (.i k (f a b)) hys h
            exact ⟨r, by simp only [List.foldlM_cons, hg, pure_bind]; exact hr, hv⟩
          · simp at h
        | _ => simp [minV] at h
      | _ => simp [minV] at h

theorem op_min {c : Go.Call} {x : AOpd} {xs : List AOpd} (ho : o.op = .call c) (hb : c.callee = .builtin .min) (s : Sim C B e h w) (hρ : OpdR e t ρ) (has : opds c.args.toList = some (x :: xs)) (hev : (AOp.min x xs).ev t.ev h = some (v, h')) : OpRes .pure C B e h w ((Go.execOp ρ o).run P w) v h' := by
  simp only [AOp.ev] at hev
  obtain ⟨y, hy, hev⟩ := Option.bind_eq_some_iff.1 hev
  cases hev
  obtain ⟨X, us, hX, vx, hxs⟩ := first_arg hρ has
  obtain ⟨r, hr, hv⟩ := minV_sound (P := P) (w := w) (g := Go.Builtin.min2) (fun k a b => rfl) vx hxs hy
  refine OpRes.pure s (u := r) (run_builtin ho hb (s := Go.Builtin.min_ c.argTypes o.type (c.args.map ρ)) ?_ fun _ => rfl) hv
  simp only [Go.Builtin.min_, Array.toList_map, hX, List.map_cons]
  exact hr
theorem op_max {c : Go.Call} {x : AOpd} {xs : List AOpd} (ho : o.op = .call c) (hb : c.callee = .builtin .max) (s : Sim C B e h w) (hρ : OpdR e t ρ) (has : opds c.args.toList = some (x :: xs)) (hev : (AOp.max x xs).ev t.ev h = some (v, h')) : OpRes .pure C B e h w ((Go.execOp ρ o).run P w) v h' := by
  simp only [AOp.ev] at hev
  obtain ⟨y, hy, hev⟩ := Option.bind_eq_some_iff.1 hev
  cases hev
  obtain ⟨X, us, hX, vx, hxs⟩ := first_arg hρ has
  obtain ⟨r, hr, hv⟩ := minV_sound (P := P) (w := w) (g := Go.Builtin.max2) (fun k a b => rfl) vx hxs hy
  refine OpRes.pure s (u := r) (run_builtin ho hb (s := Go.Builtin.max_ c.argTypes o.type (c.args.map ρ)) ?_ fun _ => rfl) hv
  simp only [Go.Builtin.max_, Array.toList_map, hX, List.map_cons]
  exact hr

end Am
