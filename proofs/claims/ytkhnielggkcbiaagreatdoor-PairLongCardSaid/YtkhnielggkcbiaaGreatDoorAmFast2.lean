/- AmFast2: code laid out for the fast evaluator: what is wanted of a region alone stands in a list. -/
import Derived.Test.YtkhnielggkcbiaaGreatDoorAmFast
namespace Am
set_option linter.all false
open Go (IntKind BinOp UnOp)

inductive KOpd where
  | loc (d : Nat) | glob (p : Pos) | c (v : V) | fn (f : Nat)
noncomputable def headV : List V → V := @List.rec V (fun _ => V) (.tup []) (fun v _ _ => v)
noncomputable def tailV : List V → List V := @List.rec V (fun _ => List V) [] (fun _ l _ => l)
noncomputable def nthV : Nat → List V → V := @Nat.rec (fun _ => List V → V) headV (fun _ ih l => ih (tailV l))
noncomputable def gE (p : Pos) (E : Tr V) : V := @Option.rec V (fun _ => V) (.tup []) (fun v => v) (getP p E)
noncomputable def rdK : KOpd → Tr V → List V → V := @KOpd.rec (fun _ => Tr V → List V → V) (fun d _ loc => nthV d loc) (fun p E _ => gE p E) (fun v _ _ => v) (fun f _ _ => .f (.fn f) [])
noncomputable def rdsK : List KOpd → Tr V → List V → List V → List V := @List.rec KOpd (fun _ => Tr V → List V → List V → List V) (fun _ _ r => r) (fun x _ ih E loc r => rdK x E loc :: ih E loc r)
noncomputable def idxK : List Nat → Nat → Nat → Option Nat := @List.rec Nat (fun _ => Nat → Nat → Option Nat) (fun _ _ => none) (fun m _ ih n d => @Bool.rec (fun _ => Option Nat) (ih n (Nat.succ d)) (some d) (Nat.beq m n))

/-- What stands where. -/
def EOk (live : Nat → Bool) (t : Tm) (E : Tr V) : Prop := ∀ n, live n = true → gE (pos n) E = t.v n
def LOk (L : List Nat) (loc : List V) (t : Tm) : Prop := ∀ n d, idxK L n 0 = some d → nthV d loc = t.v n
def GOk (L : List Nat) (t0 t : Tm) : Prop := ∀ n, idxK L n 0 = none → t.v n = t0.v n

theorem idxK_cons (m : Nat) (L : List Nat) (n d : Nat) : idxK (m :: L) n d = if m = n then some d else idxK L n (d + 1) := by
  show @Bool.rec (fun _ => Option Nat) (idxK L n (Nat.succ d)) (some d) (Nat.beq m n) = _
  by_cases h : m = n
  · rw [beq_yes h, if_pos h]
  · rw [beq_no h, if_neg h]
theorem idxK_succ : ∀ (L : List Nat) (n d : Nat), idxK L n (d + 1) = (idxK L n d).map (· + 1)
  | [], n, d => rfl
  | m :: L, n, d => by
    rw [idxK_cons, idxK_cons]
    split
    · rfl
    · exact idxK_succ L n (d + 1)

noncomputable def compO (live : Nat → Bool) (L : List Nat) : AOpd → Option KOpd :=
  @AOpd.rec (fun _ => Option KOpd) (fun n => @Option.rec Nat (fun _ => Option KOpd) (@Bool.rec (fun _ => Option KOpd) none (some (.glob (pos n))) (live n)) (fun d => some (.loc d)) (idxK L n 0)) (fun v => some (.c v)) (fun f => some (.fn f))
noncomputable def compOs (live : Nat → Bool) (L : List Nat) : List AOpd → Option (List KOpd) :=
  @List.rec AOpd (fun _ => Option (List KOpd)) (some []) (fun x _ ih => (compO live L x).bind fun x => ih.bind fun xs => some (x :: xs))

variable {live : Nat → Bool} {L : List Nat} {t0 t : Tm} {E : Tr V} {loc : List V}

theorem compO_ok {x : AOpd} {y : KOpd} (hc : compO live L x = some y) (he : EOk live t0 E) (hl : LOk L loc t) (hg : GOk L t0 t) : rdK y E loc = t.ev x := by
  cases x with
  | t n =>
    have hc : @Option.rec Nat (fun _ => Option KOpd) (@Bool.rec (fun _ => Option KOpd) none (some (.glob (pos n))) (live n)) (fun d => some (.loc d)) (idxK L n 0) = some y := hc
    cases hi : idxK L n 0 with
    | some d => rw [hi] at hc; cases hc; exact hl n d hi
    | none =>
      rw [hi] at hc
      cases hv : live n with
      | false => rw [hv] at hc; cases hc
      | true => rw [hv] at hc; cases hc; exact (he n hv).trans (hg n hi).symm
  | c v => cases hc; rfl
  | fn f => cases hc; rfl
theorem compOs_ok : ∀ {xs : List AOpd} {ys : List KOpd} (r : List V), compOs live L xs = some ys → EOk live t0 E → LOk L loc t → GOk L t0 t → rdsK ys E loc r = xs.map t.ev ++ r
  | [], ys, r, hc, he, hl, hg => by cases hc; rfl
  | x :: xs, ys, r, hc, he, hl, hg => by
    have hc : ((compO live L x).bind fun x => (compOs live L xs).bind fun xs => some (x :: xs)) = some ys := hc
    obtain ⟨y, h1, hc⟩ := Option.bind_eq_some_iff.1 hc
    obtain ⟨zs, h2, hc⟩ := Option.bind_eq_some_iff.1 hc
    cases hc
    show rdK y E loc :: rdsK zs E loc r = _
    rw [compO_ok h1 he hl hg, compOs_ok r h2 he hl hg]; rfl

inductive KAct where
  | mv (x : KOpd) | load (x : KOpd) | fa (off : Nat) (x : KOpd) | nil (x : KOpd) | bin (op : BinOp) (x y : KOpd)
  | call (f : KOpd) (args : List KOpd) | inv (tbl : List (Nat × Nat)) (x : KOpd) (args : List KOpd)
  | rare (o : AOp) (tb : List (Nat × KOpd))

noncomputable def compTb (live : Nat → Bool) (L : List Nat) : List Nat → Option (List (Nat × KOpd)) :=
  @List.rec Nat (fun _ => Option (List (Nat × KOpd))) (some []) (fun n _ ih => (compO live L (.t n)).bind fun x => ih.bind fun xs => some ((n, x) :: xs))
noncomputable def rareC (live : Nat → Bool) (L : List Nat) (o : AOp) : Option KAct := (compTb live L o.tmps).bind fun tb => some (.rare o tb)
noncomputable def compKo (live : Nat → Bool) (L : List Nat) (o : AOp) : Option KAct :=
  @AOp.rec (fun _ => (Nat → Bool) → List Nat → Option KAct)
    (fun x live L => (compO live L x).bind fun x => some (.mv x))
    (fun c a b live L => rareC live L (.pick c a b))
    (fun z live L => rareC live L (.alloc z))
    (fun k x live L => rareC live L (.box k x))
    (fun z ps live L => rareC live L (.build z ps))
    (fun z by_ len ps live L => rareC live L (.mkSl z by_ len ps))
    (fun n agg x live L => @Bool.rec (fun _ => Option KAct) (@Bool.rec (fun _ => Option KAct) (rareC live L (.load n agg x)) ((compO live L x).bind fun x => some (.load x)) (Nat.beq n 1)) (rareC live L (.load n agg x)) agg)
    (fun n x v live L => rareC live L (.store n x v))
    (fun x live L => (compO live L x).bind fun x => some (.nil x))
    (fun op x y live L => (compO live L x).bind fun x => (compO live L y).bind fun y => some (.bin op x y))
    (fun neg k x y live L => rareC live L (.eq neg k x y))
    (fun op x live L => rareC live L (.un op x))
    (fun k x live L => rareC live L (.convI k x))
    (fun x live L => rareC live L (.convSS x))
    (fun x live L => rareC live L (.convSB x))
    (fun x live L => rareC live L (.convBS x))
    (fun x live L => rareC live L (.convBB x))
    (fun x live L => rareC live L (.convRS x))
    (fun t x live L => rareC live L (.mkI t x))
    (fun f caps live L => rareC live L (.mkF f caps))
    (fun live L => rareC live L (.mkM ))
    (fun z by_ bytes len cap live L => rareC live L (.mkS z by_ bytes len cap))
    (fun x lo hi live L => rareC live L (.sliceS x lo hi))
    (fun k x lo hi mx live L => rareC live L (.sliceL k x lo hi mx))
    (fun off x live L => (compO live L x).bind fun x => some (.fa off x))
    (fun off n agg x live L => rareC live L (.fld off n agg x))
    (fun k x i live L => rareC live L (.ia k x i))
    (fun len k x i live L => rareC live L (.iaA len k x i))
    (fun x i live L => rareC live L (.ixS x i))
    (fun len k agg x i live L => rareC live L (.ixA len k agg x i))
    (fun kk z ok m k live L => rareC live L (.lk kk z ok m k))
    (fun kk m k v live L => rareC live L (.mu kk m k v))
    (fun x live L => rareC live L (.rngS x))
    (fun it live L => rareC live L (.nextS it))
    (fun x ix live L => rareC live L (.ext x ix))
    (fun k x live L => rareC live L (.lenV k x))
    (fun x live L => rareC live L (.capV x))
    (fun by_ k bytes s x live L => rareC live L (.app by_ k bytes s x))
    (fun by_ z bytes s n live L => rareC live L (.app0 by_ z bytes s n))
    (fun by_ k d s live L => rareC live L (.copy by_ k d s))
    (fun by_ z x live L => rareC live L (.clearS by_ z x))
    (fun x xs live L => rareC live L (.min x xs))
    (fun x xs live L => rareC live L (.max x xs))
    (fun live L => rareC live L (.bad )) o live L

noncomputable def compA (live : Nat → Bool) (L : List Nat) (a : AAct) : Option KAct :=
  @AAct.rec (fun _ => Option KAct) (fun o => compKo live L o) (fun f args => (compO live L f).bind fun f => (compOs live L args).bind fun args => some (.call f args))
    (fun tbl x args => (compO live L x).bind fun x => (compOs live L args).bind fun args => some (.inv tbl x args)) a

noncomputable def ascK : List (Nat × KOpd) → Nat → Tr V → List V → V :=
  @List.rec (Nat × KOpd) (fun _ => Nat → Tr V → List V → V) (fun _ _ _ => .tup []) (fun p _ ih n E loc => @Bool.rec (fun _ => V) (ih n E loc) (rdK p.2 E loc) (Nat.beq p.1 n))
noncomputable def rhoK (tb : List (Nat × KOpd)) (E : Tr V) (loc : List V) : AOpd → V := @AOpd.rec (fun _ => V) (fun n => ascK tb n E loc) (fun v => v) (fun f => .f (.fn f) [])
theorem compTb_ok : ∀ {ns : List Nat} {tb : List (Nat × KOpd)}, compTb live L ns = some tb → EOk live t0 E → LOk L loc t → GOk L t0 t → ∀ n ∈ ns, ascK tb n E loc = t.v n
  | [], tb, hc, he, hl, hg, n, hn => by cases hn
  | m :: ns, tb, hc, he, hl, hg, n, hn => by
    have hc : ((compO live L (.t m)).bind fun x => (compTb live L ns).bind fun xs => some ((m, x) :: xs)) = some tb := hc
    obtain ⟨y, h1, hc⟩ := Option.bind_eq_some_iff.1 hc
    obtain ⟨zs, h2, hc⟩ := Option.bind_eq_some_iff.1 hc
    cases hc
    show @Bool.rec (fun _ => V) (ascK zs n E loc) (rdK y E loc) (Nat.beq m n) = _
    by_cases h : m = n
    · subst h
      rw [beq_yes rfl]
      exact compO_ok h1 he hl hg
    · rw [beq_no h]
      exact compTb_ok h2 he hl hg n (by cases hn with | head => exact absurd rfl h | tail _ hn => exact hn)
theorem rhoR_tmp {ρ ρ' : AOpd → V} (hc : ∀ v, ρ (.c v) = ρ' (.c v)) (hf : ∀ f, ρ (.fn f) = ρ' (.fn f)) {x : AOpd} (h : ∀ n ∈ x.tmp, ρ (.t n) = ρ' (.t n)) : ρ x = ρ' x := by
  cases x with
  | t n => exact h n (by simp [AOpd.tmp])
  | c v => exact hc v
  | fn f => exact hf f
theorem rhoR_tmps {ρ ρ' : AOpd → V} (hc : ∀ v, ρ (.c v) = ρ' (.c v)) (hf : ∀ f, ρ (.fn f) = ρ' (.fn f)) {xs : List AOpd} (h : ∀ n ∈ xs.flatMap AOpd.tmp, ρ (.t n) = ρ' (.t n)) : xs.map ρ = xs.map ρ' :=
  List.map_congr_left fun x hx => rhoR_tmp hc hf fun n hn => h n (List.mem_flatMap.2 ⟨x, hx, hn⟩)
theorem rhoR_opt {ρ ρ' : AOpd → V} (hc : ∀ v, ρ (.c v) = ρ' (.c v)) (hf : ∀ f, ρ (.fn f) = ρ' (.fn f)) {x : Option AOpd} (h : ∀ n ∈ optT x, ρ (.t n) = ρ' (.t n)) : x.map ρ = x.map ρ' := by
  cases x with
  | none => rfl
  | some x => simp [rhoR_tmp hc hf h]
theorem evR_congr {o : AOp} {ρ ρ' : AOpd → V} (hc : ∀ v, ρ (.c v) = ρ' (.c v)) (hf : ∀ f, ρ (.fn f) = ρ' (.fn f)) {h : H} (hh : ∀ n ∈ o.tmps, ρ (.t n) = ρ' (.t n)) : o.ev ρ h = o.ev ρ' h := by
  cases o <;> simp only [AOp.tmps, List.mem_append] at hh <;>
    first
    | (have h1 := rhoR_tmp hc hf hh; simp only [AOp.ev, h1]; done)
    | (have h1 := rhoR_tmp hc hf fun n hn => hh n (.inl hn); have h2 := rhoR_tmp hc hf fun n hn => hh n (.inr hn); simp only [AOp.ev, h1, h2]; done)
    | (have h1 := rhoR_tmp hc hf fun n hn => hh n (.inl (.inl hn)); have h2 := rhoR_tmp hc hf fun n hn => hh n (.inl (.inr hn)); have h3 := rhoR_tmp hc hf fun n hn => hh n (.inr hn); simp only [AOp.ev, h1, h2, h3]; done)
    | (have h1 := rhoR_tmp hc hf fun n hn => hh n (.inl hn); have h2 := rhoR_tmps hc hf fun n hn => hh n (.inr hn); simp only [AOp.ev, h1, h2]; done)
    | (have h1 := rhoR_tmp hc hf fun n hn => hh n (.inl (.inl hn)); have h2 := rhoR_opt hc hf fun n hn => hh n (.inl (.inr hn)); have h3 := rhoR_opt hc hf fun n hn => hh n (.inr hn); simp only [AOp.ev, h1, h2, h3]; done)
    | (have h1 := rhoR_tmp hc hf fun n hn => hh n (.inl (.inl (.inl hn))); have h2 := rhoR_opt hc hf fun n hn => hh n (.inl (.inl (.inr hn))); have h3 := rhoR_opt hc hf fun n hn => hh n (.inl (.inr hn)); have h4 := rhoR_opt hc hf fun n hn => hh n (.inr hn); simp only [AOp.ev, h1, h2, h3, h4]; done)
    | (have h1 := rhoR_tmps hc hf hh; simp only [AOp.ev, h1]; done)
    | rfl
    | skip
  case build z ps =>
    have : (ps.map fun p => (p.1, p.2.1, ρ p.2.2)) = ps.map fun p => (p.1, p.2.1, ρ' p.2.2) := List.map_congr_left fun p hp => by rw [rhoR_tmp hc hf fun n hn => hh n (List.mem_flatMap.2 ⟨p, hp, hn⟩)]
    simp only [AOp.ev, this]
  case mkSl z b len ps =>
    have : (ps.map fun p => (p.1, ρ p.2)) = ps.map fun p => (p.1, ρ' p.2) := List.map_congr_left fun p hp => by rw [rhoR_tmp hc hf fun n hn => hh n (List.mem_flatMap.2 ⟨p, hp, hn⟩)]
    simp only [AOp.ev, this]
theorem rhoK_ok {o : AOp} {tb : List (Nat × KOpd)} (hc : compTb live L o.tmps = some tb) (he : EOk live t0 E) (hl : LOk L loc t) (hg : GOk L t0 t) (h : H) : o.ev (rhoK tb E loc) h = o.ev t.ev h :=
  evR_congr (ρ := rhoK tb E loc) (ρ' := t.ev) (fun _ => rfl) (fun _ => rfl) fun n hn => compTb_ok hc he hl hg n hn

/-! ### Operations -/
noncomputable def nthK {α : Type} : List α → Nat → Option α :=
  @List.rec α (fun _ => Nat → Option α) (fun _ => none) (fun x _ ih n => @Nat.rec (fun _ => Option α) (some x) (fun m _ => ih m) n)
theorem nthK_eq {α : Type} : ∀ (l : List α) (n : Nat), nthK l n = l[n]?
  | [], n => by simp; rfl
  | x :: l, 0 => rfl
  | x :: l, n + 1 => by
    show nthK l n = _
    rw [nthK_eq l n]; simp
noncomputable def lenK {α : Type} : List α → Nat := @List.rec α (fun _ => Nat) 0 (fun _ _ ih => Nat.add ih 1)
theorem lenK_eq {α : Type} : ∀ l : List α, lenK l = l.length
  | [] => rfl
  | x :: l => by show lenK l + 1 = _; rw [lenK_eq l]; rfl
noncomputable def pushH (h : H) (x : Blk) : H := ⟨Nat.add h.nx 1, putK (Nat.add h.nx 1) h.tr h.nx (some x)⟩
noncomputable def setH (h : H) (b : Nat) (x : Blk) : H := ⟨h.nx, putK (Nat.add b 1) h.tr b (some x)⟩
noncomputable def killH (h : H) (b : Nat) : H := ⟨h.nx, putK (Nat.add b 1) h.tr b none⟩
theorem pushH_eq (h : H) (x : Blk) : pushH h x = h.push x := by unfold pushH; rw [putK_eq]; rfl
theorem setH_eq (h : H) (b : Nat) (x : Blk) : setH h b x = h.set b x := by unfold setH; rw [putK_eq]; rfl
theorem killH_eq (h : H) (b : Nat) : killH h b = h.kill b := by unfold killH; rw [putK_eq]; rfl
section
variable {β : Type}
noncomputable def vT (z : β) : V → (List V → β) → β :=
  @V.rec (fun _ => (List V → β) → β) (fun _ => Unit) (fun _ _ => z) (fun _ _ _ => z) (fun _ _ => z) (fun _ _ => z) (fun _ _ _ _ _ => z) (fun _ _ => z) (fun _ _ _ _ => z) (fun _ => z) (fun _ _ _ _ => z) (fun _ => z) (fun _ _ _ => z) (fun vs _ f => f vs) () (fun _ _ _ _ => ())
noncomputable def vS (z : β) : V → (List UInt8 → β) → β :=
  @V.rec (fun _ => (List UInt8 → β) → β) (fun _ => Unit) (fun _ _ => z) (fun _ _ _ => z) (fun l f => f l) (fun _ _ => z) (fun _ _ _ _ _ => z) (fun _ _ => z) (fun _ _ _ _ => z) (fun _ => z) (fun _ _ _ _ => z) (fun _ => z) (fun _ _ _ => z) (fun _ _ _ => z) () (fun _ _ _ _ => ())
noncomputable def vSl (z : β) : V → (Option (Nat × Nat) → Nat → Nat → Bool → β) → β :=
  @V.rec (fun _ => (Option (Nat × Nat) → Nat → Nat → Bool → β) → β) (fun _ => Unit) (fun _ _ => z) (fun _ _ _ => z) (fun _ _ => z) (fun _ _ => z) (fun a n c e f => f a n c e) (fun _ _ => z) (fun _ _ _ _ => z) (fun _ => z) (fun _ _ _ _ => z) (fun _ => z) (fun _ _ _ => z) (fun _ _ _ => z) () (fun _ _ _ _ => ())
end
noncomputable def cellsK (v : V) : List V :=
  @V.rec (fun _ => List V → List V) (fun _ => Unit) (fun _ d => d) (fun _ _ d => d) (fun _ d => d) (fun _ d => d) (fun _ _ _ _ d => d) (fun _ d => d) (fun _ _ _ d => d) (fun d => d) (fun _ _ _ d => d) (fun d => d) (fun vs _ _ => vs) (fun _ _ d => d) () (fun _ _ _ _ => ()) v (v :: [])
theorem cellsK_eq (v : V) : cellsK v = v.cells := by cases v <;> rfl
noncomputable def flatK : V → Bool :=
  @V.rec (fun _ => Bool) (fun _ => Unit) (fun _ => true) (fun _ _ => true) (fun _ => true) (fun _ => true) (fun _ _ _ _ => true) (fun _ => true) (fun _ _ _ => true) true (fun _ _ _ => true) true (fun _ _ => false) (fun _ _ => false) () (fun _ _ _ _ => ())
theorem flatK_eq (v : V) : flatK v = v.flat := by cases v <;> rfl
noncomputable def flatsK : List V → Bool := @List.rec V (fun _ => Bool) true (fun v _ ih => @Bool.rec (fun _ => Bool) false ih (flatK v))
theorem flatsK_eq : ∀ l : List V, flatsK l = l.all V.flat
  | [] => rfl
  | v :: l => by
    show @Bool.rec (fun _ => Bool) false (flatsK l) (flatK v) = _
    rw [flatsK_eq l, flatK_eq, List.all_cons]
    cases v.flat <;> rfl
/-- Written over. -/
noncomputable def overK (vs : List V) : List V → List V := @List.rec V (fun _ => List V → List V) (fun row => row) (fun v _ ih row => v :: ih (tailV row)) vs
noncomputable def atK (f : Nat) (vs : List V) : List V → List V := @Nat.rec (fun _ => List V → List V) (overK vs) (fun _ ih row => headV row :: ih (tailV row)) f
theorem overK_eq : ∀ (vs row : List V), vs.length ≤ row.length → overK vs row = vs ++ row.drop vs.length
  | [], row, h => by simp; rfl
  | v :: vs, [], h => by simp at h
  | v :: vs, w :: row, h => by
    show v :: overK vs row = _
    rw [overK_eq vs row (by simpa using h)]; simp
theorem atK_eq : ∀ (f : Nat) (vs row : List V), f + vs.length ≤ row.length → atK f vs row = row.take f ++ vs ++ row.drop (f + vs.length)
  | 0, vs, row, h => by
    show overK vs row = _
    rw [overK_eq vs row (by omega)]; simp
  | f + 1, vs, [], h => by simp at h
  | f + 1, vs, w :: row, h => by
    show w :: atK f vs row = _
    rw [atK_eq f vs row (by simp at h; omega)]
    simp [Nat.add_right_comm]
noncomputable def setNK {α : Type} (x : α) : Nat → List α → List α := @Nat.rec (fun _ => List α → List α) (fun l => @List.rec α (fun _ => List α) [] (fun _ t _ => x :: t) l) (fun _ ih l => @List.rec α (fun _ => List α) [] (fun y t _ => y :: ih t) l)
theorem setNK_eq {α : Type} (x : α) : ∀ (n : Nat) (l : List α), setNK x n l = l.set n x
  | 0, [] => rfl
  | 0, y :: l => rfl
  | n + 1, [] => rfl
  | n + 1, y :: l => by show y :: setNK x n l = _; rw [setNK_eq x n l]; rfl

noncomputable def ePick (c a b : V) (h : H) : Option (V × H) := vB none c (fun x => some (@Bool.rec (fun _ => V) b a x, h))
theorem ePick_eq (c a b : AOpd) (ρ : AOpd → V) (h : H) : ePick (ρ c) (ρ a) (ρ b) h = AOp.ev (.pick c a b) ρ h := by
  simp only [AOp.ev]
  cases ρ c <;> try rfl
  rename_i x; cases x <;> rfl
noncomputable def eExt (x : V) (ix : Nat) (h : H) : Option (V × H) := vT none x (fun vs => @Option.rec V (fun _ => Option (V × H)) none (fun v => some (v, h)) (nthK vs ix))
theorem eExt_eq (x : AOpd) (ix : Nat) (ρ : AOpd → V) (h : H) : eExt (ρ x) ix h = AOp.ev (.ext x ix) ρ h := by
  simp only [AOp.ev]
  cases ρ x <;> try rfl
  rename_i vs
  show @Option.rec V (fun _ => Option (V × H)) none (fun v => some (v, h)) (nthK vs ix) = (vs[ix]?).bind fun v => some (v, h)
  rw [nthK_eq]
  cases vs[ix]? <;> rfl
noncomputable def eLen (k : LenK) (x : V) (h : H) (slow : Option (V × H)) : Option (V × H) :=
  @LenK.rec (fun _ => Option (V × H)) (vS none x (fun l => some (.i .i64 (.ofNat (lenK l)), h))) (vSl none x (fun _ n _ _ => some (.i .i64 (.ofNat n), h))) slow k
theorem eLen_eq (k : LenK) (x : AOpd) (ρ : AOpd → V) (h : H) : eLen k (ρ x) h (AOp.ev (.lenV k x) ρ h) = AOp.ev (.lenV k x) ρ h := by
  cases k
  · show vS none (ρ x) (fun l => some (V.i .i64 (.ofNat (lenK l)), h)) = _
    simp only [AOp.ev]
    cases ρ x <;> try rfl
    show some (V.i .i64 (.ofNat (lenK _)), h) = _
    rw [lenK_eq]; rfl
  · show vSl none (ρ x) (fun _ n _ _ => some (V.i .i64 (.ofNat n), h)) = _
    simp only [AOp.ev]
    cases ρ x <;> rfl
  · rfl
noncomputable def eUn (op : UnOp) (x : V) (h : H) (slow : Option (V × H)) : Option (V × H) := @UnOp.rec (fun _ => Option (V × H)) slow slow (vB none x (fun b => some (.b (notK b), h))) slow op
theorem eUn_eq (op : UnOp) (x : AOpd) (ρ : AOpd → V) (h : H) : eUn op (ρ x) h (AOp.ev (.un op x) ρ h) = AOp.ev (.un op x) ρ h := by
  cases op <;> try rfl
  show vB none (ρ x) (fun b => some (V.b (notK b), h)) = _
  simp only [AOp.ev]
  cases ρ x <;> try rfl
  show some (V.b (notK _), h) = _
  rw [notK_eq]; rfl
noncomputable def eEq (neg : Bool) (k : EqK) (x y : V) (h : H) (slow : Option (V × H)) : Option (V × H) :=
  @EqK.rec (fun _ => Option (V × H)) slow
    (vP none x (fun a => vP none y (fun b => @Option.rec (Nat × Nat × Nat) (fun _ => Option (V × H)) (some (.b (@Bool.rec (fun _ => Bool → Bool) (fun b => b) notK neg (@Option.rec (Nat × Nat × Nat) (fun _ => Bool) true (fun _ => false) b)), h))
      (fun _ => @Option.rec (Nat × Nat × Nat) (fun _ => Option (V × H)) (some (.b (@Bool.rec (fun _ => Bool → Bool) (fun b => b) notK neg false), h)) (fun _ => none) b) a)))
    slow slow slow slow k
theorem eEq_eq (neg : Bool) (k : EqK) (x y : AOpd) (ρ : AOpd → V) (h : H) : eEq neg k (ρ x) (ρ y) h (AOp.ev (.eq neg k x y) ρ h) = AOp.ev (.eq neg k x y) ρ h := by
  cases k <;> try rfl
  simp only [AOp.ev]
  unfold eEq
  cases hx : ρ x <;> try rfl
  rename_i a
  cases hy : ρ y
  case p b => cases a <;> cases b <;> cases neg <;> rfl
  all_goals (cases a <;> rfl)
noncomputable def eBox (k : Nat) (cs : List V) (h : H) : Option (V × H) :=
  @Bool.rec (fun _ => Option (V × H)) none (@Bool.rec (fun _ => Option (V × H)) none (@Bool.rec (fun _ => Option (V × H)) none (some (.p (some (h.nx, 0, 0)), pushH h (.rows k (cs :: []) false))) (flatsK cs)) (Nat.ble 1 k)) (Nat.beq (lenK cs) k)
theorem eBox_eq (k : Nat) (x : AOpd) (ρ : AOpd → V) (h : H) : eBox k (cellsK (ρ x)) h = AOp.ev (.box k x) ρ h := by
  simp only [AOp.ev]
  unfold eBox
  rw [cellsK_eq, lenK_eq, flatsK_eq, pushH_eq]
  generalize (ρ x).cells = cs
  by_cases h1 : cs.length = k
  · rw [beq_yes h1]
    by_cases h2 : 0 < k
    · have : Nat.ble 1 k = true := Nat.ble_eq_true_of_le h2
      rw [this]
      cases h3 : cs.all V.flat
      · rw [if_neg (by simp)]
      · rw [if_pos ⟨h1, h2, rfl⟩]
    · have : Nat.ble 1 k = false := ble_no h2
      rw [this, if_neg (fun hh => h2 hh.2.1)]
  · rw [beq_no h1, if_neg (fun hh => h1 hh.1)]
noncomputable def eAlloc (z : List V) (h : H) : Option (V × H) :=
  @List.rec V (fun _ => Option (V × H)) none (fun _ _ _ => @Bool.rec (fun _ => Option (V × H)) none (some (.p (some (h.nx, 0, 0)), pushH h (.rows (lenK z) (z :: []) false))) (flatsK z)) z
theorem eAlloc_eq (z : List V) (ρ : AOpd → V) (h : H) : eAlloc z h = AOp.ev (.alloc z) ρ h := by
  simp only [AOp.ev]
  unfold eAlloc
  rw [flatsK_eq, pushH_eq, lenK_eq]
  cases z with
  | nil => rfl
  | cons v z =>
    show @Bool.rec (fun _ => Option (V × H)) none _ ((v :: z).all V.flat) = _
    cases h3 : (v :: z).all V.flat
    · rw [if_pos (by simp)]
    · rw [if_neg (by simp)]
noncomputable def fillK : List (Nat × Nat × V) → List V → Option (List V) :=
  @List.rec (Nat × Nat × V) (fun _ => List V → Option (List V)) (fun z => some z) (fun p _ ih z => @Bool.rec (fun _ => Option (List V)) none (@Bool.rec (fun _ => Option (List V)) none (ih (atK p.1 (cellsK p.2.2) z)) (Nat.ble (Nat.add p.1 p.2.1) (lenK z))) (Nat.beq (lenK (cellsK p.2.2)) p.2.1))
theorem fillK_eq : ∀ (ps : List (Nat × Nat × V)) (z : List V), fillK ps z = fill z ps
  | [], z => rfl
  | (off, n, v) :: ps, z => by
    show @Bool.rec (fun _ => Option (List V)) none (@Bool.rec (fun _ => Option (List V)) none (fillK ps (atK off (cellsK v) z)) (Nat.ble (Nat.add off n) (lenK z))) (Nat.beq (lenK (cellsK v)) n) = _
    rw [fillK_eq ps, cellsK_eq, lenK_eq, lenK_eq, fill]
    by_cases h1 : v.cells.length = n
    · rw [beq_yes h1]
      by_cases h2 : off + n ≤ z.length
      · have : Nat.ble (Nat.add off n) z.length = true := Nat.ble_eq_true_of_le h2
        rw [this, if_pos ⟨h1, h2⟩, atK_eq off _ _ (by omega)]
        rfl
      · have : Nat.ble (Nat.add off n) z.length = false := ble_no h2
        rw [this, if_neg (fun hh => h2 hh.2)]
    · rw [beq_no h1, if_neg (fun hh => h1 hh.1)]
noncomputable def valsK (ρ : AOpd → V) : List (Nat × Nat × AOpd) → List (Nat × Nat × V) := @List.rec (Nat × Nat × AOpd) (fun _ => List (Nat × Nat × V)) [] (fun p _ ih => (p.1, p.2.1, ρ p.2.2) :: ih)
theorem valsK_eq (ρ : AOpd → V) : ∀ ps : List (Nat × Nat × AOpd), valsK ρ ps = ps.map fun p => (p.1, p.2.1, ρ p.2.2)
  | [] => rfl
  | p :: ps => by show (p.1, p.2.1, ρ p.2.2) :: valsK ρ ps = _; rw [valsK_eq ρ ps]; rfl
noncomputable def eBuild (z : List V) (ps : List (Nat × Nat × AOpd)) (ρ : AOpd → V) (h : H) : Option (V × H) := @Option.rec (List V) (fun _ => Option (V × H)) none (fun cs => some (.agg cs, h)) (fillK (valsK ρ ps) z)
theorem eBuild_eq (z : List V) (ps : List (Nat × Nat × AOpd)) (ρ : AOpd → V) (h : H) : eBuild z ps ρ h = AOp.ev (.build z ps) ρ h := by
  simp only [AOp.ev]
  unfold eBuild
  rw [valsK_eq, fillK_eq]
  cases fill z (ps.map fun p => (p.1, p.2.1, ρ p.2.2)) <;> rfl
noncomputable def kOfK (h : H) (b k : Nat) : Bool :=
  @Option.rec Blk (fun _ => Bool) false (fun x => @Blk.rec (fun _ => Bool) (fun k' _ _ => Nat.beq k' k) (fun _ _ => Nat.beq 1 k) (fun _ => false) (fun _ _ => false) (fun _ => false) x) (getK h.tr b)
theorem kOfK_eq (h : H) (b k : Nat) : kOfK h b k = decide (h.kOf b = some k) := by
  unfold kOfK H.kOf H.get
  rw [getK_eq]
  cases h.tr.get b with
  | none => simp
  | some x =>
    cases x <;> try simp
    · rename_i k' _ _
      show Nat.beq k' k = _
      by_cases hh : k' = k
      · rw [beq_yes hh]; simp [hh]
      · rw [beq_no hh]; simp [hh]
    · show Nat.beq 1 k = _
      by_cases hh : 1 = k
      · rw [beq_yes hh]; simp [hh]
      · rw [beq_no hh]; simp [hh]
noncomputable def eIa (k : Nat) (x i : V) (h : H) : Option (V × H) :=
  vSl none x (fun a len _ _ => @Option.rec (Nat × Nat) (fun _ => Option (V × H)) none (fun q => vI none i (fun _ n => @Int.rec (fun _ => Option (V × H)) (fun m => @Bool.rec (fun _ => Option (V × H)) none (@Bool.rec (fun _ => Option (V × H)) none (some (.p (some (q.1, Nat.add q.2 m, 0)), h)) (kOfK h q.1 k)) (Nat.ble (Nat.add m 1) len)) (fun _ => none) n)) a)
theorem eIa_eq (k : Nat) (x i : AOpd) (ρ : AOpd → V) (h : H) : eIa k (ρ x) (ρ i) h = AOp.ev (.ia k x i) ρ h := by
  simp only [AOp.ev]
  unfold eIa
  cases ρ x <;> try rfl
  rename_i a len c e
  cases a with
  | none => rfl
  | some q =>
    obtain ⟨b, r⟩ := q
    cases ρ i <;> try rfl
    rename_i kk n
    cases n with
    | negSucc m => exact (if_neg (fun hh => by have := hh.1; simp [Int.negSucc_eq] at this; omega)).symm
    | ofNat m =>
      show @Bool.rec (fun _ => Option (V × H)) none (@Bool.rec (fun _ => Option (V × H)) none (some (V.p (some (b, Nat.add r m, 0)), h)) (kOfK h b k)) (Nat.ble (Nat.add m 1) len) = _
      rw [kOfK_eq]
      by_cases h1 : m < len
      · have : Nat.ble (Nat.add m 1) len = true := Nat.ble_eq_true_of_le h1
        rw [this]
        by_cases h2 : h.kOf b = some k
        · rw [decide_eq_true h2]
          exact (if_pos ⟨Int.natCast_nonneg m, by show (m : Int) < len; omega, h2⟩).symm
        · rw [decide_eq_false h2]
          exact (if_neg (fun hh => h2 hh.2.2)).symm
      · have : Nat.ble (Nat.add m 1) len = false := ble_no h1
        rw [this]
        exact (if_neg (fun hh => by have := hh.2.1; simp at this; omega)).symm
noncomputable def eIxS (x i : V) (h : H) : Option (V × H) :=
  vS none x (fun l => vI none i (fun _ n => @Int.rec (fun _ => Option (V × H)) (fun m => @Option.rec UInt8 (fun _ => Option (V × H)) none (fun c => some (.i .u8 c.toNat, h)) (nthK l m)) (fun _ => none) n))
theorem eIxS_eq (x i : AOpd) (ρ : AOpd → V) (h : H) : eIxS (ρ x) (ρ i) h = AOp.ev (.ixS x i) ρ h := by
  simp only [AOp.ev]
  unfold eIxS
  cases ρ x <;> try rfl
  rename_i l
  cases ρ i <;> try rfl
  rename_i kk n
  cases n with
  | negSucc m => exact (if_neg (by simp [Int.negSucc_eq]; try omega)).symm
  | ofNat m =>
    show @Option.rec UInt8 (fun _ => Option (V × H)) none (fun c => some (V.i .u8 c.toNat, h)) (nthK l m) = _
    rw [nthK_eq]
    have : (0 : Int) ≤ Int.ofNat m := Int.natCast_nonneg m
    simp only [this, if_true]
    show _ = (l[m]?).bind _
    cases l[m]? <;> rfl
noncomputable def takeK {α : Type} : Nat → List α → List α := @Nat.rec (fun _ => List α → List α) (fun _ => []) (fun _ ih l => @List.rec α (fun _ => List α) [] (fun y t _ => y :: ih t) l)
noncomputable def dropK {α : Type} : Nat → List α → List α := @Nat.rec (fun _ => List α → List α) (fun l => l) (fun _ ih l => @List.rec α (fun _ => List α) [] (fun y t _ => ih t) l)
theorem takeK_eq {α : Type} : ∀ (n : Nat) (l : List α), takeK n l = l.take n
  | 0, l => by simp; rfl
  | n + 1, [] => rfl
  | n + 1, y :: l => by show y :: takeK n l = _; rw [takeK_eq n l]; rfl
theorem dropK_eq {α : Type} : ∀ (n : Nat) (l : List α), dropK n l = l.drop n
  | 0, l => by simp; rfl
  | n + 1, [] => rfl
  | n + 1, y :: l => by show dropK n l = _; rw [dropK_eq n l]; rfl
noncomputable def boundK (x : V) (y : Nat) : Option Nat := vI none x (fun _ n => @Int.rec (fun _ => Option Nat) (fun m => @Bool.rec (fun _ => Option Nat) none (some m) (Nat.ble m y)) (fun _ => none) n)
theorem boundK_eq (x : V) (y : Nat) : boundK x y = bound x y := by
  cases x <;> try rfl
  rename_i k n
  cases n with
  | negSucc m =>
    show none = (if (0 : Int) ≤ Int.negSucc m ∧ Int.negSucc m ≤ (y : Int) then some (Int.negSucc m).toNat else none)
    rw [if_neg (by rw [Int.negSucc_eq]; omega)]
  | ofNat m =>
    show @Bool.rec (fun _ => Option Nat) none (some m) (Nat.ble m y) = (if (0 : Int) ≤ Int.ofNat m ∧ Int.ofNat m ≤ (y : Int) then some (Int.ofNat m).toNat else none)
    by_cases h : m ≤ y
    · have : Nat.ble m y = true := Nat.ble_eq_true_of_le h
      rw [this]
      rw [if_pos ⟨Int.natCast_nonneg m, by show (m : Int) ≤ y; omega⟩]; rfl
    · rw [ble_no h, if_neg (fun hh => h (by have := hh.2; simp at this; omega))]
noncomputable def boundOK (x : Option AOpd) (ρ : AOpd → V) (y d : Nat) : Option Nat := @Option.rec AOpd (fun _ => Option Nat) (some d) (fun v => boundK (ρ v) y) x
theorem boundOK_eq (x : Option AOpd) (ρ : AOpd → V) (y d : Nat) : boundOK x ρ y d = boundO (x.map ρ) y d := by
  cases x with
  | none => rfl
  | some x => exact boundK_eq _ _
noncomputable def eSliceS (x : V) (lo hi : Option AOpd) (ρ : AOpd → V) (h : H) : Option (V × H) :=
  vS none x (fun l => @Option.rec Nat (fun _ => Option (V × H)) none (fun e => @Option.rec Nat (fun _ => Option (V × H)) none (fun s => some (.s (dropK s (takeK e l)), h)) (boundOK lo ρ e 0)) (boundOK hi ρ (lenK l) (lenK l)))
theorem eSliceS_eq (x : AOpd) (lo hi : Option AOpd) (ρ : AOpd → V) (h : H) : eSliceS (ρ x) lo hi ρ h = AOp.ev (.sliceS x lo hi) ρ h := by
  simp only [AOp.ev]
  unfold eSliceS
  cases ρ x <;> try rfl
  rename_i l
  show @Option.rec Nat (fun _ => Option (V × H)) none (fun e => @Option.rec Nat (fun _ => Option (V × H)) none (fun s => some (V.s (dropK s (takeK e l)), h)) (boundOK lo ρ e 0)) (boundOK hi ρ (lenK l) (lenK l)) = (boundO (hi.map ρ) l.length l.length).bind fun e => (boundO (lo.map ρ) e 0).bind fun s => some (V.s ((l.take e).drop s), h)
  rw [boundOK_eq, lenK_eq]
  cases boundO (hi.map ρ) l.length l.length with
  | none => rfl
  | some e =>
    show @Option.rec Nat (fun _ => Option (V × H)) none (fun s => some (V.s (dropK s (takeK e l)), h)) (boundOK lo ρ e 0) = (boundO (lo.map ρ) e 0).bind fun s => some (V.s ((l.take e).drop s), h)
    rw [boundOK_eq, takeK_eq]
    cases boundO (lo.map ρ) e 0 with
    | none => rfl
    | some s => show some (V.s (dropK s _), h) = _; rw [dropK_eq]; rfl
noncomputable def eConvI (k : IntKind) (x : V) (h : H) : Option (V × H) := vI none x (fun _ n => some (.i k (wrapK k n), h))
theorem eConvI_eq (k : IntKind) (x : AOpd) (ρ : AOpd → V) (h : H) : eConvI k (ρ x) h = AOp.ev (.convI k x) ρ h := by
  simp only [AOp.ev]
  cases ρ x <;> try rfl
  show some (V.i k (wrapK k _), h) = _
  rw [wrapK_eq]
noncomputable def rdB (h : H) (b r f n : Nat) : Option (List V) :=
  match getK h.tr b with
  | some (.rows _ rs _) => (nthK rs r).bind fun row => if f + n ≤ row.length then some ((row.drop f).take n) else none
  | _ => h.rd b r f n
theorem rdB_eq (h : H) (b r f n : Nat) : rdB h b r f n = h.rd b r f n := by
  unfold rdB
  split
  · rename_i hx
    rw [getK_eq] at hx
    unfold H.rd H.row H.get
    rw [hx, nthK_eq]
  · rfl
noncomputable def eLoad (n : Nat) (agg : Bool) (x : V) (h : H) : Option (V × H) := vP none x (fun a => @Option.rec (Nat × Nat × Nat) (fun _ => Option (V × H)) none (fun q => ((rdB h q.1 q.2.1 q.2.2 n).bind (aggOf agg)).bind fun v => some (v, h)) a)
theorem eLoad_eq (n : Nat) (agg : Bool) (x : AOpd) (ρ : AOpd → V) (h : H) : eLoad n agg (ρ x) h = AOp.ev (.load n agg x) ρ h := by
  simp only [AOp.ev]
  unfold eLoad
  cases ρ x <;> try rfl
  rename_i a
  cases a with
  | none => rfl
  | some q =>
    obtain ⟨b, r, f⟩ := q
    show ((rdB h b r f n).bind (aggOf agg)).bind (fun v => some (v, h)) = _
    rw [rdB_eq, Option.bind_assoc]
noncomputable def wrK (h : H) (b r f : Nat) (vs : List V) (slow : Option (V × H)) : Option (V × H) :=
  @Option.rec Blk (fun _ => Option (V × H)) none (fun x => @Blk.rec (fun _ => Option (V × H)) (fun k rs ro => @Bool.rec (fun _ => Option (V × H))
      (@Option.rec (List V) (fun _ => Option (V × H)) none (fun row => @Bool.rec (fun _ => Option (V × H)) none (@Bool.rec (fun _ => Option (V × H)) none (some (.tup [], setH h b (.rows k (setNK (atK f vs row) r rs) false))) (flatsK vs)) (Nat.ble (Nat.add f (lenK vs)) (lenK row))) (nthK rs r))
      none ro) (fun _ _ => slow) (fun _ => none) (fun _ _ => none) (fun _ => none) x) (getK h.tr b)
noncomputable def eStore (n : Nat) (x v : V) (h : H) (slow : Option (V × H)) : Option (V × H) :=
  vP none x (fun a => @Option.rec (Nat × Nat × Nat) (fun _ => Option (V × H)) none (fun q => @Bool.rec (fun _ => Option (V × H)) none (wrK h q.1 q.2.1 q.2.2 (cellsK v) slow) (Nat.beq (lenK (cellsK v)) n)) a)
theorem eStore_eq (n : Nat) (x v : AOpd) (ρ : AOpd → V) (h : H) : eStore n (ρ x) (ρ v) h (AOp.ev (.store n x v) ρ h) = AOp.ev (.store n x v) ρ h := by
  simp only [AOp.ev]
  unfold eStore
  cases hx : ρ x <;> try rfl
  rename_i a
  cases a with
  | none => rfl
  | some q =>
    obtain ⟨b, r, f⟩ := q
    show @Bool.rec (fun _ => Option (V × H)) none (wrK h b r f (cellsK (ρ v)) (if (ρ v).cells.length = n then (h.wr b r f (ρ v).cells).bind fun h' => some (V.un, h') else none)) (Nat.beq (lenK (cellsK (ρ v))) n) = if (ρ v).cells.length = n then (h.wr b r f (ρ v).cells).bind fun h' => some (V.un, h') else none
    rw [cellsK_eq, lenK_eq]
    generalize (ρ v).cells = vs
    by_cases h1 : vs.length = n
    · rw [beq_yes h1, if_pos h1]
      show wrK h b r f vs _ = _
      unfold wrK
      rw [getK_eq]
      unfold H.wr H.get
      cases hb : h.tr.get b with
      | none => rfl
      | some x =>
        cases x <;> try rfl
        rename_i k rs ro
        cases ro with
        | true => rfl
        | false =>
          show @Option.rec (List V) (fun _ => Option (V × H)) none (fun row => @Bool.rec (fun _ => Option (V × H)) none (@Bool.rec (fun _ => Option (V × H)) none (some (V.tup [], setH h b (.rows k (setNK (atK f vs row) r rs) false))) (flatsK vs)) (Nat.ble (Nat.add f (lenK vs)) (lenK row))) (nthK rs r) = _
          rw [nthK_eq]
          simp only
          cases hr : rs[r]? with
          | none => rfl
          | some row =>
            show @Bool.rec (fun _ => Option (V × H)) none (@Bool.rec (fun _ => Option (V × H)) none (some (V.tup [], setH h b (.rows k (setNK (atK f vs row) r rs) false))) (flatsK vs)) (Nat.ble (Nat.add f (lenK vs)) (lenK row)) = _
            rw [lenK_eq, lenK_eq, flatsK_eq, setH_eq, setNK_eq]
            by_cases h2 : f + vs.length ≤ row.length
            · have : Nat.ble (Nat.add f vs.length) row.length = true := Nat.ble_eq_true_of_le h2
              rw [this, atK_eq f vs row h2]
              cases h3 : vs.all V.flat
              · simp [h3]
              · simp [h2, h3]
            · have : Nat.ble (Nat.add f vs.length) row.length = false := ble_no h2
              rw [this]
              simp [h2]
    · rw [beq_no h1, if_neg h1]
noncomputable def opR (o : AOp) (ρ : AOpd → V) (h : H) : Option (V × H) :=
  @AOp.rec (fun _ => (AOpd → V) → H → Option (V × H))
    (fun x ρ h => AOp.ev (.mv x) ρ h)
    (fun c a b ρ h => ePick (ρ c) (ρ a) (ρ b) h)
    (fun z ρ h => eAlloc z h)
    (fun k x ρ h => eBox k (cellsK (ρ x)) h)
    (fun z ps ρ h => eBuild z ps ρ h)
    (fun z by_ len ps ρ h => AOp.ev (.mkSl z by_ len ps) ρ h)
    (fun n agg x ρ h => eLoad n agg (ρ x) h)
    (fun n x v ρ h => eStore n (ρ x) (ρ v) h (AOp.ev (.store n x v) ρ h))
    (fun x ρ h => AOp.ev (.nilCheck x) ρ h)
    (fun op x y ρ h => AOp.ev (.bin op x y) ρ h)
    (fun neg k x y ρ h => eEq neg k (ρ x) (ρ y) h (AOp.ev (.eq neg k x y) ρ h))
    (fun op x ρ h => eUn op (ρ x) h (AOp.ev (.un op x) ρ h))
    (fun k x ρ h => eConvI k (ρ x) h)
    (fun x ρ h => AOp.ev (.convSS x) ρ h)
    (fun x ρ h => AOp.ev (.convSB x) ρ h)
    (fun x ρ h => AOp.ev (.convBS x) ρ h)
    (fun x ρ h => AOp.ev (.convBB x) ρ h)
    (fun x ρ h => AOp.ev (.convRS x) ρ h)
    (fun t x ρ h => AOp.ev (.mkI t x) ρ h)
    (fun f caps ρ h => AOp.ev (.mkF f caps) ρ h)
    (fun ρ h => AOp.ev (.mkM ) ρ h)
    (fun z by_ bytes len cap ρ h => AOp.ev (.mkS z by_ bytes len cap) ρ h)
    (fun x lo hi ρ h => eSliceS (ρ x) lo hi ρ h)
    (fun k x lo hi mx ρ h => AOp.ev (.sliceL k x lo hi mx) ρ h)
    (fun off x ρ h => AOp.ev (.fa off x) ρ h)
    (fun off n agg x ρ h => AOp.ev (.fld off n agg x) ρ h)
    (fun k x i ρ h => eIa k (ρ x) (ρ i) h)
    (fun len k x i ρ h => AOp.ev (.iaA len k x i) ρ h)
    (fun x i ρ h => eIxS (ρ x) (ρ i) h)
    (fun len k agg x i ρ h => AOp.ev (.ixA len k agg x i) ρ h)
    (fun kk z ok m k ρ h => AOp.ev (.lk kk z ok m k) ρ h)
    (fun kk m k v ρ h => AOp.ev (.mu kk m k v) ρ h)
    (fun x ρ h => AOp.ev (.rngS x) ρ h)
    (fun it ρ h => AOp.ev (.nextS it) ρ h)
    (fun x ix ρ h => eExt (ρ x) ix h)
    (fun k x ρ h => eLen k (ρ x) h (AOp.ev (.lenV k x) ρ h))
    (fun x ρ h => AOp.ev (.capV x) ρ h)
    (fun by_ k bytes s x ρ h => AOp.ev (.app by_ k bytes s x) ρ h)
    (fun by_ z bytes s n ρ h => AOp.ev (.app0 by_ z bytes s n) ρ h)
    (fun by_ k d s ρ h => AOp.ev (.copy by_ k d s) ρ h)
    (fun by_ z x ρ h => AOp.ev (.clearS by_ z x) ρ h)
    (fun x xs ρ h => AOp.ev (.min x xs) ρ h)
    (fun x xs ρ h => AOp.ev (.max x xs) ρ h)
    (fun ρ h => AOp.ev (.bad ) ρ h) o ρ h
theorem opR_eq (o : AOp) (ρ : AOpd → V) (h : H) : opR o ρ h = o.ev ρ h := by
  cases o <;> first | rfl | exact ePick_eq .. | exact eExt_eq .. | exact eLen_eq .. | exact eUn_eq .. | exact eEq_eq .. | exact eBox_eq .. | exact eAlloc_eq .. | exact eBuild_eq .. | exact eIa_eq .. | exact eIxS_eq .. | exact eConvI_eq .. | exact eLoad_eq .. | exact eStore_eq .. | exact eSliceS_eq ..

abbrev KV := V → H → Bool
abbrev RK := Cal → List V → H → KV → Bool
def RKok (R : RK) (Rn : RunT) : Prop := ∀ c as h K, R c as h K = true → ∃ v h', Rn c as h = some (v, h') ∧ K v h' = true

noncomputable def binIK : BinOp → IntKind → Int → Int → (V → Bool) → Bool → Bool :=
  @BinOp.rec (fun _ => IntKind → Int → Int → (V → Bool) → Bool → Bool)
    (fun k a b K _ => K (.i k (wrapK k (addK a b)))) (fun k a b K _ => K (.i k (wrapK k (addK a (negI b))))) (fun _ _ _ _ z => z) (fun _ _ _ _ z => z) (fun _ _ _ _ z => z) (fun _ _ _ _ z => z) (fun _ _ _ _ z => z) (fun _ _ _ _ z => z) (fun _ _ _ _ z => z) (fun _ _ _ _ z => z) (fun _ _ _ _ z => z)
    (fun _ a b K _ => K (.b (eqIK a b))) (fun _ a b K _ => K (.b (notK (eqIK a b)))) (fun _ a b K _ => K (.b (ltK a b))) (fun _ a b K _ => K (.b (notK (ltK b a)))) (fun _ a b K _ => K (.b (ltK b a))) (fun _ a b K _ => K (.b (notK (ltK a b))))
noncomputable def eqU (a b : UInt8) : Bool := Nat.beq a.toBitVec.toFin.val b.toBitVec.toFin.val
theorem eqU_eq (a b : UInt8) : eqU a b = decide (a = b) := by
  unfold eqU
  by_cases h : a = b
  · subst h; rw [beq_yes rfl]; simp
  · rw [beq_no (fun he => h (by
      have : a.toNat = b.toNat := he
      exact UInt8.toNat_inj.1 this))]
    simp [h]
noncomputable def eqS : List UInt8 → List UInt8 → Bool :=
  @List.rec UInt8 (fun _ => List UInt8 → Bool) (@List.rec UInt8 (fun _ => Bool) true (fun _ _ _ => false)) (fun a _ ih y => @List.rec UInt8 (fun _ => Bool) false (fun b t _ => @Bool.rec (fun _ => Bool) false (ih t) (eqU a b)) y)
theorem eqS_eq : ∀ x y : List UInt8, eqS x y = decide (x = y)
  | [], [] => rfl
  | [], _ :: _ => rfl
  | _ :: _, [] => rfl
  | a :: x, b :: y => by
    show @Bool.rec (fun _ => Bool) false (eqS x y) (eqU a b) = _
    rw [eqU_eq, eqS_eq x y]
    by_cases h : a = b
    · subst h; simp
    · simp [h]
noncomputable def binSK : BinOp → List UInt8 → List UInt8 → (V → Bool) → Bool → Bool :=
  @BinOp.rec (fun _ => List UInt8 → List UInt8 → (V → Bool) → Bool → Bool)
    (fun _ _ _ z => z) (fun _ _ _ z => z) (fun _ _ _ z => z) (fun _ _ _ z => z) (fun _ _ _ z => z) (fun _ _ _ z => z) (fun _ _ _ z => z) (fun _ _ _ z => z) (fun _ _ _ z => z) (fun _ _ _ z => z) (fun _ _ _ z => z)
    (fun a b K _ => K (.b (eqS a b))) (fun a b K _ => K (.b (notK (eqS a b)))) (fun _ _ _ z => z) (fun _ _ _ z => z) (fun _ _ _ z => z) (fun _ _ _ z => z)
noncomputable def slowB (op : BinOp) (x y : V) (K : V → Bool) : Bool := @Option.rec V (fun _ => Bool) false K (Am.bin op x y)
noncomputable def binK (op : BinOp) (x y : V) (K : V → Bool) : Bool :=
  vI (vS (slowB op x y K) x (fun a => vS (slowB op x y K) y (fun b => binSK op a b K (slowB op x y K)))) x (fun k a => vI (slowB op x y K) y (fun k' b =>
    @Bool.rec (fun _ => Bool) (slowB op x y K) (binIK op k a b K (slowB op x y K)) (sameK k k')))
theorem slow_true {x : Option V} {K : V → Bool} (h : @Option.rec V (fun _ => Bool) false K x = true) : ∃ v, x = some v ∧ K v = true := by
  cases x with
  | none => cases h
  | some v => exact ⟨v, rfl, h⟩
theorem binK_true {op : BinOp} {x y : V} {K : V → Bool} (h : binK op x y K = true) : ∃ v, Am.bin op x y = some v ∧ K v = true := by
  unfold binK at h
  cases x with
  | i k a =>
    have h : vI (slowB op (.i k a) y K) y (fun k' b =>
      @Bool.rec (fun _ => Bool) (slowB op (.i k a) y K) (binIK op k a b K (slowB op (.i k a) y K)) (sameK k k')) = true := h
    cases y with
    | i k' b =>
      have h : @Bool.rec (fun _ => Bool) (slowB op (.i k a) (.i k' b) K) (binIK op k a b K (slowB op (.i k a) (.i k' b) K)) (sameK k k') = true := h
      cases hs : sameK k k' with
      | false => rw [hs] at h; exact slow_true h
      | true =>
        rw [hs] at h
        have hk := sameK_true hs
        subst hk
        have h : binIK op k a b K (slowB op (.i k a) (.i k b) K) = true := h
        cases op
        case add => exact ⟨.i k (k.wrap (a + b)), by simp [Am.bin, binI], by have h : K (.i k (wrapK k (addK a b))) = true := h; rw [wrapK_eq, addK_eq] at h; exact h⟩
        case sub => exact ⟨.i k (k.wrap (a - b)), by simp [Am.bin, binI], by have h : K (.i k (wrapK k (addK a (negI b)))) = true := h; rw [wrapK_eq, addK_eq, negI_eq] at h; rw [Int.sub_eq_add_neg]; exact h⟩
        case eql => exact ⟨.b (decide (a = b)), by simp [Am.bin, binI], by have h : K (.b (eqIK a b)) = true := h; rw [eqIK_eq] at h; exact h⟩
        case neq => exact ⟨.b (decide (a ≠ b)), by simp [Am.bin, binI], by have h : K (.b (notK (eqIK a b))) = true := h; rw [eqIK_eq, notK_eq] at h; simpa using h⟩
        case lss => exact ⟨.b (decide (a < b)), by simp [Am.bin, binI], by have h : K (.b (ltK a b)) = true := h; rw [ltK_eq] at h; exact h⟩
        case leq => exact ⟨.b (decide (a ≤ b)), by simp [Am.bin, binI], by have h : K (.b (notK (ltK b a))) = true := h; rw [ltK_eq, notK_eq, ← decide_not] at h; simpa using h⟩
        case gtr => exact ⟨.b (decide (b < a)), by simp [Am.bin, binI], by have h : K (.b (ltK b a)) = true := h; rw [ltK_eq] at h; exact h⟩
        case geq => exact ⟨.b (decide (b ≤ a)), by simp [Am.bin, binI], by have h : K (.b (notK (ltK a b))) = true := h; rw [ltK_eq, notK_eq, ← decide_not] at h; simpa using h⟩
        all_goals exact slow_true h
    | _ => exact slow_true h
  | s a =>
    have h : vS (slowB op (.s a) y K) y (fun b => binSK op a b K (slowB op (.s a) y K)) = true := h
    cases y with
    | s b =>
      have h : binSK op a b K (slowB op (.s a) (.s b) K) = true := h
      cases op
      case eql => exact ⟨.b (decide (a = b)), by simp [Am.bin, binS], by have h : K (.b (eqS a b)) = true := h; rw [eqS_eq] at h; exact h⟩
      case neq => exact ⟨.b (decide (a ≠ b)), by simp [Am.bin, binS], by have h : K (.b (notK (eqS a b))) = true := h; rw [eqS_eq, notK_eq] at h; simpa using h⟩
      all_goals exact slow_true h
    | _ => exact slow_true h
  | _ => exact slow_true h
/-- One cell read. -/
noncomputable def blkK (b : Option Blk) (r f : Nat) (K : V → Bool) : Bool :=
  @Option.rec Blk (fun _ => Bool) false (fun x => @Blk.rec (fun _ => Bool) (fun _ rs _ => @Option.rec (List V) (fun _ => Bool) false (fun row => @Option.rec V (fun _ => Bool) false K (nthK row f)) (nthK rs r))
    (fun bs _ => @Option.rec UInt8 (fun _ => Bool) false (fun c => @Nat.rec (fun _ => Bool) (K (.i .u8 c.toNat)) (fun _ _ => false) f) (nthK bs r)) (fun _ => false) (fun _ _ => false) (fun _ => false) x) b
theorem blkK_true {h : H} {b r f : Nat} {K : V → Bool} (hk : blkK (getK h.tr b) r f K = true) : ∃ v, h.rd b r f 1 = some [v] ∧ K v = true := by
  rw [getK_eq] at hk
  unfold H.rd H.row H.get
  cases hb : h.tr.get b with
  | none => rw [hb] at hk; cases hk
  | some x =>
    rw [hb] at hk
    cases x with
    | rows k rs ro =>
      have hk : @Option.rec (List V) (fun _ => Bool) false (fun row => @Option.rec V (fun _ => Bool) false K (nthK row f)) (nthK rs r) = true := hk
      rw [nthK_eq] at hk
      cases hr : rs[r]? with
      | none => rw [hr] at hk; cases hk
      | some row =>
        rw [hr] at hk
        have hk : @Option.rec V (fun _ => Bool) false K (nthK row f) = true := hk
        rw [nthK_eq] at hk
        cases hf : row[f]? with
        | none => rw [hf] at hk; cases hk
        | some v =>
          rw [hf] at hk
          refine ⟨v, ?_, hk⟩
          have hlt := (List.getElem?_eq_some_iff.1 hf).1
          simp only [hr, Option.bind_some]
          rw [if_pos (by omega)]
          congr 1
          apply List.ext_getElem?
          intro i
          cases i with
          | zero => simp [List.getElem?_take, List.getElem?_drop, hf]
          | succ i => simp [List.getElem?_take]
    | bytes bs ro =>
      have hk : @Option.rec UInt8 (fun _ => Bool) false (fun c => @Nat.rec (fun _ => Bool) (K (.i .u8 c.toNat)) (fun _ _ => false) f) (nthK bs r) = true := hk
      rw [nthK_eq] at hk
      cases hr : bs[r]? with
      | none => rw [hr] at hk; cases hk
      | some c =>
        rw [hr] at hk
        cases f with
        | zero => exact ⟨_, by simp [hr], hk⟩
        | succ f => cases hk
    | map es => cases hk
    | iter s p => cases hk
    | loop l => cases hk
noncomputable def nilK : V → Bool :=
  @V.rec (fun _ => Bool) (fun _ => Unit) (fun _ => false) (fun _ _ => false) (fun _ => false) (fun a => @Option.rec (Nat × Nat × Nat) (fun _ => Bool) false (fun _ => true) a) (fun _ _ _ _ => false) (fun _ => false) (fun _ _ _ => true) false (fun _ _ _ => true) false (fun _ _ => false) (fun _ _ => false) () (fun _ _ _ _ => ())
noncomputable def actK : KAct → RK → Tr V → List V → H → KV → Bool :=
  @KAct.rec (fun _ => RK → Tr V → List V → H → KV → Bool)
    (fun x _ E loc h K => K (rdK x E loc) h)
    (fun x _ E loc h K => vP false (rdK x E loc) (fun a => @Option.rec (Nat × Nat × Nat) (fun _ => Bool) false (fun q => blkK (getK h.tr q.1) q.2.1 q.2.2 (fun v => K v h)) a))
    (fun off x _ E loc h K => vP false (rdK x E loc) (fun a => @Option.rec (Nat × Nat × Nat) (fun _ => Bool) false (fun q => K (.p (some (q.1, q.2.1, Nat.add q.2.2 off))) h) a))
    (fun x _ E loc h K => @Bool.rec (fun _ => Bool) false (K (rdK x E loc) h) (nilK (rdK x E loc)))
    (fun op x y _ E loc h K => binK op (rdK x E loc) (rdK y E loc) (fun v => K v h))
    (fun f args R E loc h K => vF false (rdK f E loc) (fun c caps => R c (rdsK args E loc caps) h K))
    (fun tbl x args R E loc h K => vIf false (rdK x E loc) (fun ty v => @Option.rec Nat (fun _ => Bool) false (fun f => R (.fn f) (v :: rdsK args E loc []) h K) (inTbl tbl ty)))
    (fun o tb _ E loc h K => @Option.rec (V × H) (fun _ => Bool) false (fun r => K r.1 r.2) (opR o (rhoK tb E loc) h))
theorem act_op_true {Rn : RunT} {o : AOp} {h : H} {K : KV} {v : V} {h' : H} (he : o.ev t.ev h = some (v, h')) (hk : K v h' = true) : ∃ v h', evOp Rn (.op o) t h = some (v, h') ∧ K v h' = true := ⟨v, h', he, hk⟩
theorem actK_true {R : RK} {Rn : RunT} (hR : RKok R Rn) {a : AAct} {ka : KAct} (hc : compA live L a = some ka) (he : EOk live t0 E) (hl : LOk L loc t) (hg : GOk L t0 t) {h : H} {K : KV} (hk : actK ka R E loc h K = true) :
    ∃ v h', evOp Rn a t h = some (v, h') ∧ K v h' = true := by
  have rare : ∀ {o : AOp} {ka : KAct}, rareC live L o = some ka → actK ka R E loc h K = true → ∃ v h', evOp Rn (.op o) t h = some (v, h') ∧ K v h' = true := by
    intro o ka hc hk
    obtain ⟨tb, h1, h2⟩ := Option.bind_eq_some_iff.1 hc
    cases h2
    have hk : @Option.rec (V × H) (fun _ => Bool) false (fun r => K r.1 r.2) (opR o (rhoK tb E loc) h) = true := hk
    rw [opR_eq, rhoK_ok h1 he hl hg] at hk
    cases hv : o.ev t.ev h with
    | none => rw [hv] at hk; cases hk
    | some r => rw [hv] at hk; exact act_op_true hv hk
  cases a with
  | call f args =>
    have hc : ((compO live L f).bind fun f => (compOs live L args).bind fun args => some (.call f args)) = some ka := hc
    obtain ⟨y, h1, hc⟩ := Option.bind_eq_some_iff.1 hc
    obtain ⟨zs, h2, hc⟩ := Option.bind_eq_some_iff.1 hc
    cases hc
    have hk : vF false (rdK y E loc) (fun c caps => R c (rdsK zs E loc caps) h K) = true := hk
    obtain ⟨c, caps, hf, hk⟩ := vF_true hk
    rw [compO_ok h1 he hl hg] at hf
    rw [compOs_ok caps h2 he hl hg] at hk
    obtain ⟨v, h', hv, hk⟩ := hR _ _ _ _ hk
    exact ⟨v, h', by simp only [evOp, hf]; exact hv, hk⟩
  | inv tbl x args =>
    have hc : ((compO live L x).bind fun f => (compOs live L args).bind fun args => some (.inv tbl f args)) = some ka := hc
    obtain ⟨y, h1, hc⟩ := Option.bind_eq_some_iff.1 hc
    obtain ⟨zs, h2, hc⟩ := Option.bind_eq_some_iff.1 hc
    cases hc
    have hk : vIf false (rdK y E loc) (fun ty v => @Option.rec Nat (fun _ => Bool) false (fun f => R (.fn f) (v :: rdsK zs E loc []) h K) (inTbl tbl ty)) = true := hk
    obtain ⟨ty, u, hf, hk⟩ := vIf_true hk
    rw [compO_ok h1 he hl hg] at hf
    cases ht : inTbl tbl ty with
    | none => rw [ht] at hk; cases hk
    | some f =>
      rw [ht] at hk
      have hk : R (.fn f) (u :: rdsK zs E loc []) h K = true := hk
      rw [compOs_ok [] h2 he hl hg, List.append_nil] at hk
      obtain ⟨v, h', hv, hk⟩ := hR _ _ _ _ hk
      exact ⟨v, h', by simp only [evOp, hf, ht]; exact hv, hk⟩
  | op o =>
    replace hc : compKo live L o = some ka := hc
    cases o
    case mv x =>
      have hc : ((compO live L x).bind fun x => some (.mv x)) = some ka := hc
      obtain ⟨y, h1, hc⟩ := Option.bind_eq_some_iff.1 hc
      cases hc
      have hk : K (rdK y E loc) h = true := hk
      rw [compO_ok h1 he hl hg] at hk
      exact act_op_true rfl hk
    case fa off x =>
      have hc : ((compO live L x).bind fun x => some (.fa off x)) = some ka := hc
      obtain ⟨y, h1, hc⟩ := Option.bind_eq_some_iff.1 hc
      cases hc
      have hk : vP false (rdK y E loc) (fun a => @Option.rec (Nat × Nat × Nat) (fun _ => Bool) false (fun q => K (.p (some (q.1, q.2.1, Nat.add q.2.2 off))) h) a) = true := hk
      obtain ⟨a, hv, hk⟩ := vP_true hk
      rw [compO_ok h1 he hl hg] at hv
      cases a with
      | none => cases hk
      | some q => exact act_op_true (h' := h) (by simp only [AOp.ev, hv]; rfl) hk
    case nilCheck x =>
      have hc : ((compO live L x).bind fun x => some (.nil x)) = some ka := hc
      obtain ⟨y, h1, hc⟩ := Option.bind_eq_some_iff.1 hc
      cases hc
      have hk : @Bool.rec (fun _ => Bool) false (K (rdK y E loc) h) (nilK (rdK y E loc)) = true := hk
      rw [compO_ok h1 he hl hg] at hk
      cases hv : t.ev x <;> rw [hv] at hk <;> first | (cases hk; done) | skip
      case p a =>
        cases a with
        | none => cases hk
        | some q => exact act_op_true (h' := h) (by simp only [AOp.ev, hv]) hk
      case f c vs => exact act_op_true (h' := h) (by simp only [AOp.ev, hv]) hk
      case ifc ty u => exact act_op_true (h' := h) (by simp only [AOp.ev, hv]) hk
    case bin op x z =>
      have hc : ((compO live L x).bind fun x => (compO live L z).bind fun y => some (.bin op x y)) = some ka := hc
      obtain ⟨y, h1, hc⟩ := Option.bind_eq_some_iff.1 hc
      obtain ⟨w, h2, hc⟩ := Option.bind_eq_some_iff.1 hc
      cases hc
      have hk : binK op (rdK y E loc) (rdK w E loc) (fun v => K v h) = true := hk
      rw [compO_ok h1 he hl hg, compO_ok h2 he hl hg] at hk
      obtain ⟨v, hv, hk⟩ := binK_true hk
      exact act_op_true (h' := h) (by simp only [AOp.ev, hv, Option.bind_some]) hk
    case load n agg x =>
      have hc : @Bool.rec (fun _ => Option KAct) (@Bool.rec (fun _ => Option KAct) (rareC live L (.load n agg x)) ((compO live L x).bind fun x => some (.load x)) (Nat.beq n 1)) (rareC live L (.load n agg x)) agg = some ka := hc
      cases agg with
      | true => exact rare hc hk
      | false =>
        cases hn : Nat.beq n 1 with
        | false => rw [hn] at hc; exact rare hc hk
        | true =>
          rw [hn] at hc
          have hn := Nat.eq_of_beq_eq_true hn
          subst hn
          obtain ⟨y, h1, hc⟩ := Option.bind_eq_some_iff.1 hc
          cases hc
          have hk : vP false (rdK y E loc) (fun a => @Option.rec (Nat × Nat × Nat) (fun _ => Bool) false (fun q => blkK (getK h.tr q.1) q.2.1 q.2.2 (fun v => K v h)) a) = true := hk
          obtain ⟨a, hv, hk⟩ := vP_true hk
          rw [compO_ok h1 he hl hg] at hv
          cases a with
          | none => cases hk
          | some q =>
            obtain ⟨v, hv2, hk⟩ := blkK_true hk
            exact act_op_true (h' := h) (by simp only [AOp.ev, hv, hv2, Option.bind_some, aggOf]; rfl) hk
    all_goals exact rare hc hk
end Am
