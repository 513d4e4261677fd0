/- AmLaw: a law with arguments, from what must hold ahead of its code to a call of the model. -/
import Derived.Test.YtibmhhdgcbaofaaDoorAmArgs
import GoSem.ClaimWide
import Derived.Carry
namespace Am
set_option linter.unusedVariables false
set_option linter.unusedSimpArgs false
open Go (IntKind BinOp UnOp Value Program TypeId TypeDesc Operand Oper Code Tmp World Addr Obj Act Fence DataW MemPlace Lit)

/-- An argument laid: a struct is one value. -/
def Dt.arg (x : Dt) (h : H) : V × H :=
  match x with
  | .st xs => (.agg (Dt.layL xs h).1, (Dt.layL xs h).2)
  | .b x => (.b x, h)
  | .i k n => (.i k n, h)
  | .s l => (.s l, h)
  | .nl => (.sl none 0 0 true, h)
  | .sl k xs => (.sl (some ((Dt.layR xs h).2.nx, 0)) xs.length xs.length false, (Dt.lay (.sl k xs) h).2)
  | .bs l => (.sl (some (h.nx, 0)) l.length l.length false, (Dt.lay (.bs l) h).2)
def Dt.args : List Dt → H → List V × H
  | [], h => ([], h)
  | x :: xs, h => ((x.arg h).1 :: (Dt.args xs (x.arg h).2).1, (Dt.args xs (x.arg h).2).2)
def tysOf (P : Program) (n : Nat) : List TypeId → Option (List Ty)
  | [] => some []
  | t :: ts => (tyOf P n t).bind fun ty => (tysOf P n ts).map (ty :: ·)

variable {P : Program}

theorem arg_shape {w : World} {r : Go.Reach} {base n : Nat} {t : TypeId} {ty : Ty} {v : Value} (ht : tyOf P n t = some ty) (hv : Value.okWide P w r base t v) : (∃ ts, ty = .st ts ∧ ∃ cs, v = .agg cs) ∨ ((∀ ts, ty ≠ .st ts) ∧ v.cells = #[v]) := by
  cases n with
  | zero => simp [tyOf] at ht
  | succ n =>
    unfold tyOf at ht
    unfold Go.Value.okWide at hv
    split at ht
    · rename_i hd
      cases ht
      rw [hd] at hv
      simp only at hv
      refine .inr ⟨by simp, ?_⟩
      cases v <;> first | rfl | (simp [Go.Cell.okWide, Go.Cell.ok, hd] at hv)
    · rename_i hd
      cases ht
      rw [hd] at hv
      simp only at hv
      refine .inr ⟨by simp, ?_⟩
      cases v <;> first | rfl | (simp [Go.Cell.okWide, Go.Cell.ok, hd] at hv)
    · rename_i hd
      cases ht
      rw [hd] at hv
      simp only at hv
      refine .inr ⟨by simp, ?_⟩
      cases v <;> first | rfl | (simp [Go.Cell.okWide, Go.Cell.ok, hd] at hv)
    · rename_i el hd
      rw [hd] at hv
      simp only at hv
      refine .inr ⟨?_, ?_⟩
      · intro ts he
        subst he
        split at ht
        · split at ht <;> cases ht
        · obtain ⟨ty1, _, ht⟩ := Option.bind_eq_some_iff.1 ht
          split at ht <;> cases ht
      · cases v <;> first | rfl | (simp [Go.Cell.okWide, Go.Cell.ok, hd] at hv)
    · rename_i fs hd
      rw [hd] at hv
      simp only at hv
      obtain ⟨ts, _, ht⟩ := Option.bind_eq_some_iff.1 ht
      split at ht
      · cases ht
        obtain ⟨cs, hcs, _⟩ := hv
        exact .inl ⟨ts, rfl, cs, hcs⟩
      · cases ht
    · cases ht

theorem arg_laid {HT : Type} {enc : TypeId × Value → HT} {w : World} {r : Go.Reach} {base n : Nat} {t : TypeId} {ty : Ty} {v : Value} {d : DataW HT} {p : List MemPlace} (ht : tyOf P n t = some ty) (hv : Value.okWide P w r base t v)
    (hd : DataW.Trod enc P w 0 (fun _ => true) true t v d p) : ∃ x, Dt.has ty x ∧ ∀ (C : Cx) (B : Nat) (e : Emb) (h : H), Sim C B e h w → Ro h → ∃ e', e.le e' ∧ VR e' (x.arg h).1 v ∧ Sim C B e' (x.arg h).2 w ∧ Ro (x.arg h).2 := by
  obtain ⟨fuel, hf⟩ := hd
  obtain ⟨x, hx, hlen, hlay⟩ := trod_lay fuel n t ty _ _ ht hf
  refine ⟨x, hx, fun C B e h s hr => ?_⟩
  obtain ⟨e', le, hvr, s', r', _⟩ := hlay C B e h s hr
  rcases arg_shape ht hv with ⟨ts, rfl, cs, rfl⟩ | ⟨hne, hc⟩
  · cases x <;> simp only [Dt.has] at hx
    rename_i xs
    refine ⟨e', le, ?_, s', r'⟩
    exact .agg _ _ hvr
  · have h1 : v.cells.toList = [v] := by rw [hc]
    rw [h1] at hvr
    have key : ∀ u g, (x.lay h) = ([u], g) → (x.arg h) = (u, g) → ∃ e', e.le e' ∧ VR e' (x.arg h).1 v ∧ Sim C B e' (x.arg h).2 w ∧ Ro (x.arg h).2 := by
      intro u g e1 e2
      rw [e1] at hvr s' r'
      rw [e2]
      cases hvr with
      | cons _ _ _ _ a b => exact ⟨e', le, a, s', r'⟩
    cases x with
    | st xs =>
      cases ty <;> simp only [Dt.has] at hx
      exact absurd rfl (hne _)
    | b x => exact key _ _ rfl rfl
    | i k n => exact key _ _ rfl rfl
    | s l => exact key _ _ rfl rfl
    | nl => exact key _ _ rfl rfl
    | sl k xs => exact key _ _ rfl rfl
    | bs l => exact key _ _ rfl rfl

theorem args_laid {HT : Type} {enc : TypeId × Value → HT} {w : World} {r : Go.Reach} {base n : Nat} : ∀ {ts : List TypeId} {tys : List Ty} {vs : List Value} {ds : List (DataW HT)} {ps : List MemPlace}, tysOf P n ts = some tys →
    (∀ (j : Nat) t v, ts[j]? = some t → vs[j]? = some v → Value.okWide P w r base t v) → DataW.TrodAll enc P w 0 (fun _ => true) true ts vs ds ps →
    ∃ xs, Dt.hasL tys xs ∧ ∀ (C : Cx) (B : Nat) (e : Emb) (h : H), Sim C B e h w → Ro h → ∃ e', e.le e' ∧ VRL e' (Dt.args xs h).1 vs ∧ Sim C B e' (Dt.args xs h).2 w ∧ Ro (Dt.args xs h).2
  | [], tys, [], [], ps, ht, hv, hd => by
    simp [tysOf] at ht; subst ht
    exact ⟨[], by simp [Dt.hasL], fun C B e h s hr => ⟨e, Emb.le_refl _, .nil, s, hr⟩⟩
  | [], tys, _ :: _, ds, ps, ht, hv, hd => by cases ds <;> simp [DataW.TrodAll] at hd
  | [], tys, [], _ :: _, ps, ht, hv, hd => by simp [DataW.TrodAll] at hd
  | t :: ts, tys, [], ds, ps, ht, hv, hd => by cases ds <;> simp [DataW.TrodAll] at hd
  | t :: ts, tys, v :: vs, [], ps, ht, hv, hd => by simp [DataW.TrodAll] at hd
  | t :: ts, tys, v :: vs, d :: ds, ps, ht, hv, hd => by
    unfold tysOf at ht
    obtain ⟨ty, hty, ht⟩ := Option.bind_eq_some_iff.1 ht
    obtain ⟨tys', htys, rfl⟩ := Option.map_eq_some_iff.1 ht
    simp only [DataW.TrodAll] at hd
    obtain ⟨p, q, hp, hq, _⟩ := hd
    obtain ⟨x, hx, hl⟩ := arg_laid hty (hv 0 t v rfl rfl) hp
    obtain ⟨xs, hxs, hls⟩ := args_laid htys (fun j t v h1 h2 => hv (j + 1) t v (by simpa using h1) (by simpa using h2)) hq
    refine ⟨x :: xs, by simp only [Dt.hasL]; exact ⟨hx, hxs⟩, fun C B e h s hr => ?_⟩
    obtain ⟨e1, le1, v1, s1, r1⟩ := hl C B e h s hr
    obtain ⟨e2, le2, v2, s2, r2⟩ := hls C B e1 _ s1 r1
    exact ⟨e2, Emb.le_trans le1 le2, .cons _ _ _ _ (v1.mono le2) v2, s2, r2⟩

/-- The heap that arguments are laid into. -/
def h0 : H := ⟨4096, .e⟩

theorem law_calls {pr : Prog} (hp : ProgOk P pr) {f : Nat} {af : AFunc} (hx : pr.ext f = none) (hf : pr.fn f = some af) {HT : Type} {enc : TypeId × Value → HT} {w : World} {r : Go.Reach} {base n : Nat} {ts : List TypeId} {tys : List Ty} {args : Array Value} {ds : List (DataW HT)} {ps : List MemPlace}
    (ht : tysOf P n ts = some tys) (hv : ∀ (j : Nat) t v, ts[j]? = some t → args.toList[j]? = some v → Value.okWide P w r base t v) (hd : DataW.TrodAll enc P w 0 (fun _ => true) true ts args.toList ds ps)
    (hlaw : ∀ xs, Dt.hasL tys xs → wpF pr af (Dt.args xs h0).1 (Dt.args xs h0).2 (fun v _ => v = .b true)) : Go.Calls P f args w fun E w' => E = .returned (.bool true) ∧ Go.RowKit.Below w.heap.size w w' := by
  obtain ⟨xs, hxs, hl⟩ := args_laid ht hv hd
  have hno : ∀ b x, h0.get b = some x → False := fun b x hb => by simp [h0, H.get, Tr.get] at hb
  have s0 : Sim (CC P) w.heap.size (glOf P) h0 w := ⟨fun b x hb => (hno b x hb).elim, fun b _ x _ _ _ hb => (hno b x hb).elim, fun b l h => glOf_lt h, Nat.le_refl _, fun _ _ h => h⟩
  obtain ⟨e', _, hvs, s, hro⟩ := hl _ _ _ _ s0 (fun b x hb => (hno b x hb).elim)
  obtain ⟨m, v, h', hrun, hv1⟩ := runs_of_wpF hx hf (hlaw xs hxs)
  have := calls_of_run hp hx hrun hvs s hro
  refine this.mono ?_
  rintro E w' ⟨u, e2, rfl, hu, hb⟩
  rw [hv1] at hu
  cases hu
  exact ⟨rfl, hb⟩


theorem trodAll_stay (hl : Go.laidOutB P = true) {HT : Type} {enc : TypeId × Value → HT} {w w' : World} (hb : Go.RowKit.Below w.heap.size w w') : ∀ {ts : List TypeId} {vs : List Value} {ds : List (DataW HT)} {ps : List MemPlace},
    (ts.all fun t => P.readableRec t && decide (t < P.types.size)) = true → DataW.TrodAll enc P w 0 (fun _ => true) true ts vs ds ps → (∀ x ∈ ps, x.block < w.heap.size) → DataW.TrodAll enc P w' 0 (fun b => decide (b < w.heap.size)) true ts vs ds ps
  | [], [], [], ps, _, hd, _ => hd
  | [], _ :: _, ds, ps, _, hd, _ => by cases ds <;> simp [DataW.TrodAll] at hd
  | [], [], _ :: _, ps, _, hd, _ => by simp [DataW.TrodAll] at hd
  | t :: ts, [], ds, ps, _, hd, _ => by cases ds <;> simp [DataW.TrodAll] at hd
  | t :: ts, v :: vs, [], ps, _, hd, _ => by simp [DataW.TrodAll] at hd
  | t :: ts, v :: vs, d :: ds, ps, ha, hd, hlt => by
    simp only [List.all_cons, Bool.and_eq_true, decide_eq_true_eq] at ha
    simp only [DataW.TrodAll] at hd ⊢
    obtain ⟨p, q, hp, hq, rfl⟩ := hd
    exact ⟨p, q, Go.RowKit.Below.trod hl ha.1.1 ha.1.2 hp hb (fun x hx => hlt x (List.mem_append_left _ hx)), trodAll_stay hl hb (by simpa using ha.2) hq (fun x hx => hlt x (List.mem_append_right _ hx)), rfl⟩
theorem trodAll_len {HT : Type} {enc : TypeId × Value → HT} {w : World} {b : Nat} {sp : Nat → Bool} {hd : Bool} : ∀ {ts : List TypeId} {vs : List Value} {ds : List (DataW HT)} {ps : List MemPlace}, DataW.TrodAll enc P w b sp hd ts vs ds ps → ds.length = ts.length
  | [], [], [], ps, _ => rfl
  | [], _ :: _, ds, ps, h => by cases ds <;> simp [DataW.TrodAll] at h
  | [], [], _ :: _, ps, h => by simp [DataW.TrodAll] at h
  | t :: ts, [], ds, ps, h => by cases ds <;> simp [DataW.TrodAll] at h
  | t :: ts, v :: vs, [], ps, h => by simp [DataW.TrodAll] at h
  | t :: ts, v :: vs, d :: ds, ps, h => by
    simp only [DataW.TrodAll] at h
    obtain ⟨p, q, _, hq, _⟩ := h
    simp [trodAll_len hq]


/-! ### Data of a type -/
theorem hasL_nil {xs : List Dt} (h : Dt.hasL [] xs) : xs = [] := by cases xs with | nil => rfl | cons x xs => simp [Dt.hasL] at h
theorem hasL_cons {t : Ty} {ts : List Ty} {xs : List Dt} (h : Dt.hasL (t :: ts) xs) : ∃ x xs', xs = x :: xs' ∧ Dt.has t x ∧ Dt.hasL ts xs' := by
  cases xs with
  | nil => simp [Dt.hasL] at h
  | cons x xs => simp only [Dt.hasL] at h; exact ⟨x, xs, rfl, h⟩
theorem has_i {k : IntKind} {x : Dt} (h : Dt.has (.i k) x) : ∃ n, x = .i k n ∧ k.min ≤ n ∧ n ≤ k.max := by
  cases x <;> simp only [Dt.has] at h
  obtain ⟨rfl, h⟩ := h
  exact ⟨_, rfl, h⟩
theorem has_b {x : Dt} (h : Dt.has .b x) : ∃ b, x = .b b := by cases x <;> simp only [Dt.has] at h; exact ⟨_, rfl⟩
theorem has_s {x : Dt} (h : Dt.has .s x) : ∃ l, x = .s l ∧ l.length ≤ Go.maxLen := by cases x <;> simp only [Dt.has] at h; exact ⟨_, rfl, h⟩
theorem has_st {ts : List Ty} {x : Dt} (h : Dt.has (.st ts) x) : ∃ xs, x = .st xs ∧ Dt.hasL ts xs := by cases x <;> simp only [Dt.has] at h; exact ⟨_, rfl, h⟩
theorem has_bs {x : Dt} (h : Dt.has .bs x) : x = .nl ∨ ∃ l, x = .bs l ∧ l.length ≤ Go.maxLen := by
  cases x <;> simp only [Dt.has] at h
  · exact .inl rfl
  · exact .inr ⟨_, rfl, h⟩
theorem has_sl {k : Nat} {e : Ty} {x : Dt} (h : Dt.has (.sl k e) x) : x = .nl ∨ ∃ xs, x = .sl k xs ∧ xs.length ≤ Go.maxLen ∧ Dt.hasA e xs := by
  cases x <;> simp only [Dt.has] at h
  · exact .inl rfl
  · obtain ⟨rfl, h1, h2⟩ := h
    exact .inr ⟨_, rfl, h1, h2⟩

end Am
