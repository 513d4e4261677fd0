/- AmOps6: the builtins; each operation, once more, as one theorem. -/
import Derived.Test.YtibmhhdgcbaofaaDoorAmOps5
namespace Am
set_option linter.unusedVariables false
set_option linter.unusedSimpArgs false
open Go (IntKind BinOp UnOp Value Program TypeId TypeDesc Operand Oper Code Tmp World Addr Obj Act)

variable {P : Program} {C : Cx} {B : Nat} {e e' : Emb} {h h' : H} {w w' : World} {t : Tm} {ρ : Operand → Value} {o : Oper} {v : V}

/-- A builtin's run. -/
theorem run_builtin {c : Go.Call} {b : Go.Builtin} (ho : o.op = .call c) (hb : c.callee = .builtin b) {s : Go.Sem Value} {u : Value} (hs : s.run P w = .ok u w')
    (hbu : ∀ xs, Go.builtin b c.argTypes o.type xs (c.args.map ρ) = (do pure (.value (← s)))) : (Go.execOp ρ o).run P w = .ok (.value u) w' := by
  simp only [Go.execOp, ho, Go.resolve, hb, Go.Sem.run_bind, Go.Sem.run_pure, Go.Result.andThen_ok, Go.invoke]
  rw [hbu]
  simp only [Go.Sem.run_bind, hs, Go.Result.andThen_ok, Go.Sem.run_pure]

theorem two_args {as : Array Operand} {a b : AOpd} (hρ : OpdR e t ρ) (h : opds as.toList = some [a, b]) : ∃ x y, as = #[x, y] ∧ VR e (t.ev a) (ρ x) ∧ VR e (t.ev b) (ρ y) := by
  obtain ⟨l⟩ := as
  match l, h with
  | [], h => simp [opds] at h
  | [x], h =>
    simp only [opds] at h
    obtain ⟨a', _, h⟩ := Option.bind_eq_some_iff.1 h
    simp at h
  | [x, y], h =>
    simp only [opds] at h
    obtain ⟨a', ha, h⟩ := Option.bind_eq_some_iff.1 h
    obtain ⟨r, hr, h⟩ := Option.bind_eq_some_iff.1 h
    obtain ⟨b', hb, hr⟩ := Option.bind_eq_some_iff.1 hr
    simp at hr; subst hr
    simp at h
    obtain ⟨rfl, rfl⟩ := h
    exact ⟨x, y, rfl, hρ _ _ ha, hρ _ _ hb⟩
  | x :: y :: z :: l, h =>
    simp only [opds] at h
    obtain ⟨a', ha, h⟩ := Option.bind_eq_some_iff.1 h
    obtain ⟨r, hr, h⟩ := Option.bind_eq_some_iff.1 h
    obtain ⟨b', hb, hr⟩ := Option.bind_eq_some_iff.1 hr
    obtain ⟨r2, hr2, hr⟩ := Option.bind_eq_some_iff.1 hr
    obtain ⟨c', hc, hr2⟩ := Option.bind_eq_some_iff.1 hr2
    obtain ⟨r3, hr3, hr2⟩ := Option.bind_eq_some_iff.1 hr2
    cases hr2; cases hr; simp at h
theorem first_arg {as : Array Operand} {a : AOpd} {rest : List AOpd} (hρ : OpdR e t ρ) (h : opds as.toList = some (a :: rest)) : ∃ x xs, as.toList = x :: xs ∧ VR e (t.ev a) (ρ x) ∧ VRL e (rest.map t.ev) (xs.map ρ) := by
  obtain ⟨l⟩ := as
  cases l with
  | nil => simp [opds] at h
  | cons x xs =>
    simp only [opds] at h
    obtain ⟨a', ha, h⟩ := Option.bind_eq_some_iff.1 h
    obtain ⟨r, hr, h⟩ := Option.bind_eq_some_iff.1 h
    cases h
    exact ⟨x, xs, rfl, hρ _ _ ha, hρ.list hr⟩

theorem args0 {as : Array Operand} {x : Operand} {xs : List Operand} (h : as.toList = x :: xs) : (as.map ρ)[0]? = some (ρ x) := by
  obtain ⟨l⟩ := as
  simp at h; subst h; simp
theorem types0 {ts : Array TypeId} {x : TypeId} {xs : List TypeId} (h : ts.toList = x :: xs) : ts[0]? = some x := by
  obtain ⟨l⟩ := ts
  simp at h; subst h; simp
theorem types1 {ts : Array TypeId} {x y : TypeId} {xs : List TypeId} (h : ts.toList = x :: y :: xs) : ts[1]? = some y := by
  obtain ⟨l⟩ := ts
  simp at h; subst h; simp

theorem op_len {c : Go.Call} {ty : TypeId} {ts : List TypeId} {x : AOpd} {rest : List AOpd} {k : LenK} (ho : o.op = .call c) (hb : c.callee = .builtin .len) (s : Sim C B e h w) (hρ : OpdR e t ρ) (hts : c.argTypes.toList = ty :: ts) (has : opds c.args.toList = some (x :: rest))
    (hd : match k with | .str => P.underlying ty = some .string | .sl => ∃ el, P.underlying ty = some (.slice el) | .map => ∃ a b, P.underlying ty = some (.map a b))
    (hev : (AOp.lenV k x).ev t.ev h = some (v, h')) : OpRes (AOp.lenV k x).kind C B e h w ((Go.execOp ρ o).run P w) v h' := by
  simp only [AOp.ev] at hev
  obtain ⟨X, xs, hX, vx, _⟩ := first_arg hρ has
  have h0 := types0 hts
  have h1 := args0 (ρ := ρ) hX
  have key : ∀ {n : Nat}, (Go.Builtin.len_ c.argTypes o.type (c.args.map ρ)).run P w = .ok (.int .i64 n) w → OpRes (AOp.lenV k x).kind C B e h w ((Go.execOp ρ o).run P w) (.i .i64 n) h := fun hr => by
    cases k <;> exact ⟨rfl, _, run_builtin ho hb hr fun _ => rfl, .i _ _⟩
  split at hev
  · rename_i l hp
    rw [hp] at vx; simp at hev; obtain ⟨rfl, rfl⟩ := hev
    obtain ⟨b', hb', hl⟩ := vx.s_inv
    refine key ?_
    have : b'.size = l.length := by rw [← hl]; exact Array.length_toList.symm
    simp only at hd
    simp [Go.Builtin.len_, h0, h1, hb', Go.run_underlying hd, Go.goInt, this]
  · rename_i n cp ex hp
    rw [hp] at vx; simp at hev; obtain ⟨rfl, rfl⟩ := hev
    obtain ⟨el, hd⟩ := hd
    refine key ?_
    have : ∃ A c', ρ X = .slice A n c' := by
      generalize ρ X = u at *
      cases vx with
      | sl0 => exact ⟨_, _, rfl⟩
      | sl => exact ⟨_, _, rfl⟩
    obtain ⟨A, c', hu⟩ := this
    simp [Go.Builtin.len_, h0, h1, hu, Go.run_underlying hd, Go.goInt]
  · rename_i hp
    rw [hp] at vx; simp at hev; obtain ⟨rfl, rfl⟩ := hev
    obtain ⟨a, b, hd⟩ := hd
    have := key (n := 0) (by simp [Go.Builtin.len_, h0, h1, vx.m0_inv, Go.run_underlying hd, Go.goInt])
    simpa using this
  · rename_i r hp
    rw [hp] at vx
    obtain ⟨a, b, hd⟩ := hd
    split at hev
    · rename_i es hbk
      simp at hev; obtain ⟨rfl, rfl⟩ := hev
      obtain ⟨l, hl, hB, hlt, _⟩ := s.blk r _ hbk
      obtain ⟨ces, clock, hheap, hks, hvs⟩ := hB
      have hlen := hks.length
      simp only [List.length_map, Array.length_toList] at hlen
      have hget : (Go.getObj l.cb).run P w = .ok (.map ces clock) w := by simp [Go.getObj, Go.Sem.run, hheap]
      exact key (by simp [Go.Builtin.len_, h0, h1, vx.m_inv hl, Go.run_underlying hd, Go.goInt, hget, hlen])
    · simp at hev
  · simp at hev

theorem op_cap {c : Go.Call} {ty el : TypeId} {ts : List TypeId} {x : AOpd} {rest : List AOpd} (ho : o.op = .call c) (hb : c.callee = .builtin .cap) (s : Sim C B e h w) (hρ : OpdR e t ρ) (hts : c.argTypes.toList = ty :: ts) (has : opds c.args.toList = some (x :: rest))
    (hd : P.underlying ty = some (.slice el)) (hev : (AOp.capV x).ev t.ev h = some (v, h')) : OpRes .pure C B e h w ((Go.execOp ρ o).run P w) v h' := by
  simp only [AOp.ev] at hev
  obtain ⟨X, xs, hX, vx, _⟩ := first_arg hρ has
  have h0 := types0 hts
  have h1 := args0 (ρ := ρ) hX
  split at hev
  · rename_i n cp hp
    rw [hp] at vx; simp at hev; obtain ⟨rfl, rfl⟩ := hev
    have : ∃ A n', ρ X = .slice A n' cp := by
      generalize ρ X = u at *
      cases vx with
      | sl0 => exact ⟨_, _, rfl⟩
      | sl _ _ _ _ _ _ _ _ _ _ _ h3 => have := h3 rfl; subst this; exact ⟨_, _, rfl⟩
    obtain ⟨A, n', hu⟩ := this
    refine OpRes.pure s (u := .int .i64 cp) (run_builtin ho hb (w' := w) (u := .int .i64 cp) (s := Go.Builtin.cap_ c.argTypes o.type (c.args.map ρ)) ?_ fun _ => rfl) (.i _ _)
    simp [Go.Builtin.cap_, h0, h1, hu, Go.run_underlying hd, Go.goInt]
  · simp at hev

/-! ### append -/
def isI : TypeDesc → Bool
  | .int _ => true
  | _ => false
theorem append_unfold {ty u el : TypeId} {k n : Nat} {base : Option Addr} {sLen sCap : Nat} {x : Value} {ats : Array TypeId} {rt : TypeId} {ut : TypeDesc} (h0 : ats[0]? = some ty) (h1 : ats[1]? = some u) (hd : P.underlying ty = some (.slice el)) (hk : szOf P el = some k)
    (hu : P.underlying u = some ut) (hz : isI ut = false) (hn : (Go.Builtin.lenOf x).run P w = .ok n w) :
    (Go.Builtin.append_ ats rt #[.slice base sLen sCap, x]).run P w = (appCore el k base sLen sCap n false x (Go.Builtin.firstCells k n x)).run P w := by
  unfold Go.Builtin.append_
  simp only [h0, h1, show (#[Value.slice base sLen sCap, x] : Array Value)[0]? = some (.slice base sLen sCap) from rfl, show (#[Value.slice base sLen sCap, x] : Array Value)[1]? = some x from rfl]
  rw [Go.Sem.run_bind, Go.run_underlying hd]
  dsimp only [Go.Result.andThen]
  rw [Go.Sem.run_bind, run_sz hk]
  dsimp only [Go.Result.andThen]
  rw [Go.Sem.run_bind, Go.run_underlying hu]
  dsimp only [Go.Result.andThen]
  rw [Go.Sem.run_bind, Go.Sem.run_pure]
  dsimp only [Go.Result.andThen]
  have key : ∀ z : Bool, z = false → (Go.Sem.run P (do
      let n ← if z then do
          let l := IntKind.i64.wrap (← Go.asInt x)
          if l < 0 then Go.runtimePanic (.error "makeslice: len out of range")
          if l * (← Go.typeInfo el).bytes > 2 ^ 48 then
            let made ← Go.choose (.extern "append.ofMake.carriedOut" 2)
            Go.runtimePanic (.error (if made == 1 then "makeslice: len out of range" else "growslice: len out of range"))
          pure l.toNat
        else Go.Builtin.lenOf x
      appCore el k base sLen sCap n z x (if !z then Go.Builtin.firstCells k n x else if n * k = 0 then pure #[] else do pure (Go.Builtin.zeroCells (← Go.zeroValue el).cells n))) w) =
        (appCore el k base sLen sCap n false x (Go.Builtin.firstCells k n x)).run P w := by
    intro z hz
    subst hz
    rw [if_neg (by simp), Go.Sem.run_bind, hn]
    rfl
  exact (show _ = _ from rfl).trans (key (isI ut) hz)

theorem isInt_desc {u : TypeId} {b : Bool} (h : isIntT P u = some b) : ∃ d, P.underlying u = some d ∧ isI d = b := by
  unfold isIntT at h
  split at h
  · simp at h; subst h; exact ⟨_, ‹_›, rfl⟩
  · simp at h; subst h
    rename_i d hne hd
    refine ⟨d, hd, ?_⟩
    cases d <;> first | rfl | (exact (hne _ rfl).elim)
  · simp at h

theorem op_app {c : Go.Call} {ty u el : TypeId} {ts : List TypeId} {S X : AOpd} {k bytes : Nat} {by_ : Bool} {z : List V} (ho : o.op = .call c) (hb : c.callee = .builtin .append) (s : Sim C B e h w) (hρ : OpdR e t ρ) (hts : c.argTypes.toList = ty :: u :: ts)
    (has : opds c.args.toList = some [S, X]) (hd : P.underlying ty = some (.slice el)) (hk : szOf P el = some k) (hby : bytesOfT P el = some bytes) (hbt : isByte P el = some by_) (hzs : isIntT P u = some false) (hz : zeroT P el = some z) (hzk : z.length = k) (hk0 : k ≠ 0)
    (hb1 : by_ = true → z = [.i .u8 0]) (hev : (AOp.app by_ k bytes S X).ev t.ev h = some (v, h')) : OpRes .eff C B e h w ((Go.execOp ρ o).run P w) v h' := by
  simp only [AOp.ev] at hev
  obtain ⟨sx, xx, hargs, vs, vx⟩ := two_args hρ has
  have h0 := types0 hts
  have h1 := types1 hts
  obtain ⟨ut, hut, hum⟩ := isInt_desc hzs
  obtain ⟨zv, hzr, hzv⟩ := run_zero hz w
  have hzr2 : ∀ w : World, (Go.zeroValue el).run P w = .ok zv w := by
    intro w2
    obtain ⟨zv2, h2, _⟩ := run_zero hz w2
    unfold zeroT at hz
    obtain ⟨v0, hv0, _⟩ := Option.bind_eq_some_iff.1 hz
    obtain ⟨i, hi, hv0⟩ := Option.bind_eq_some_iff.1 hv0
    simp [Go.zeroValue, Go.typeInfo, hi, hv0] at hzr ⊢
    exact hzr
  have hzsz : zv.cells.size = k := by have := (hzv e).length; simp at this; omega
  have hbu : ∀ xs, c.args = #[sx, xx] → (Go.builtin .append c.argTypes o.type xs (c.args.map ρ)) = (do pure (.value (← Go.Builtin.append_ c.argTypes o.type #[ρ sx, ρ xx]))) := by
    intro xs hh
    rw [hh]
    have : (#[sx, xx] : Array Operand).map ρ = #[ρ sx, ρ xx] := by simp
    rw [this]
    rfl
  have fin : ∀ {r : Value} {w' : World}, (Go.Builtin.append_ c.argTypes o.type #[ρ sx, ρ xx]).run P w = .ok r w' → (Go.execOp ρ o).run P w = .ok (.value r) w' := fun hr => run_builtin ho hb hr fun xs => hbu xs hargs
  split at hev
  · rename_i a len cap ex a' n cp' ex' hp hq
    rw [hp] at vs; rw [hq] at vx
    split at hev
    · -- bytes
      rename_i hbt2
      obtain ⟨new, hnew, hev⟩ := Option.bind_eq_some_iff.1 hev
      obtain ⟨hnl, A', c', hx, hlies⟩ := bseg_sound s hnew vx (Nat.le_refl _)
      have hk1 : k = 1 := by rw [← hzk, hb1 hbt2]; rfl
      have happ : ∀ w2 : World, w2.heap = w.heap → (Go.Builtin.firstCells 1 n (.slice A' n c')).run P w2 = .ok (bcells new).toArray w2 := fun w2 hw2 => first_bytes n hnl (by
        rcases hlies with hh | ⟨cb, off, hA, hl⟩
        · exact .inl hh
        · exact .inr ⟨cb, off, hA, fun j x hj => by have := hl j x hj; simpa only [World.cell?, hw2] using this⟩)
      obtain ⟨A, c0, r, w', e', hs, hrun, hvr, hst⟩ := appBytes_sound (P := P) (zeros := false) (x := .slice A' n c') s hev vs hby hzr2 (by rw [hzsz, hk1]) happ
      refine ⟨r, w', e', .inl (fin ?_), hvr, hst⟩
      rw [hs, hx, append_unfold h0 h1 hd hk hut hum (n := n) rfl]
      rw [hnl, ← hk1] at hrun
      exact hrun
    · obtain ⟨new, hnew, hev⟩ := Option.bind_eq_some_iff.1 hev
      obtain ⟨hnl, us, A', c', hus, hx, hlies⟩ := rseg_sound s hnew vx (Nat.le_refl _)
      have happ : ∀ w2 : World, w2.heap = w.heap → (Go.Builtin.firstCells k n (.slice A' n c')).run P w2 = .ok us.toArray w2 := fun w2 hw2 => first_rows n (by rw [hus.len, hnl]) (by
        rcases hlies with hh | ⟨cb, off, hA, hl⟩
        · exact .inl hh
        · exact .inr ⟨cb, off, hA, fun j x hj => by have := hl j x hj; simpa only [World.cell?, hw2] using this⟩)
      obtain ⟨A, c0, r, w', e', hs, hrun, hvr, hst⟩ := appRows_sound (P := P) (zeros := false) (x := .slice A' n c') s hev vs hus (by omega) hby hzr2 hzsz happ
      refine ⟨r, w', e', .inl (fin ?_), hvr, hst⟩
      rw [hs, hx, append_unfold h0 h1 hd hk hut hum (n := n) rfl]
      rw [hnl] at hrun
      exact hrun
  · rename_i a len cap ex l hp hq
    rw [hp] at vs; rw [hq] at vx
    split at hev
    · rename_i hbt2
      obtain ⟨b', hb', hl⟩ := vx.s_inv
      have hk1 : k = 1 := by rw [← hzk, hb1 hbt2]; rfl
      have hsz : b'.size = l.length := by rw [← hl]; exact Array.length_toList.symm
      have happ : ∀ w2 : World, w2.heap = w.heap → (Go.Builtin.firstCells 1 l.length (.string b')).run P w2 = .ok (bcells l).toArray w2 := by
        intro w2 _
        simp only [Go.Builtin.firstCells, Go.Sem.run_pure]
        congr 1
        apply Array.toList_inj.1
        rw [← hsz]
        have : b'.extract 0 b'.size = b' := by simp
        rw [this]
        simp [bcells, ← hl]
      obtain ⟨A, c0, r, w', e', hs, hrun, hvr, hst⟩ := appBytes_sound (P := P) (zeros := false) (x := .string b') s hev vs hby hzr2 (by rw [hzsz, hk1]) happ
      refine ⟨r, w', e', .inl (fin ?_), hvr, hst⟩
      rw [hs, hb', append_unfold h0 h1 hd hk hut hum (n := l.length) (by simp [Go.Builtin.lenOf, hsz])]
      rw [← hk1] at hrun
      exact hrun
    · simp at hev
  · simp at hev

end Am
