/- AmDraw1: what an operation's answer hangs on: its operands; by its kind, the heap. -/
import Derived.Test.YtibmhhdgcbaofaaDoorAmSound3
namespace Am
set_option linter.unusedVariables false
set_option linter.unusedSimpArgs false
open Go (IntKind BinOp UnOp Value Program TypeId TypeDesc Operand Oper Code Tmp World Addr Obj Act Fence)

theorem ev_tmp {t t' : Tm} {x : AOpd} (h : ∀ n ∈ x.tmp, t.v n = t'.v n) : t.ev x = t'.ev x := by
  cases x with
  | t n => exact h n (by simp [AOpd.tmp])
  | c v => rfl
  | fn f => rfl
theorem ev_tmps {t t' : Tm} {xs : List AOpd} (h : ∀ n ∈ xs.flatMap AOpd.tmp, t.v n = t'.v n) : xs.map t.ev = xs.map t'.ev :=
  List.map_congr_left fun x hx => ev_tmp fun n hn => h n (List.mem_flatMap.2 ⟨x, hx, hn⟩)
theorem ev_opt {t t' : Tm} {x : Option AOpd} (h : ∀ n ∈ optT x, t.v n = t'.v n) : x.map t.ev = x.map t'.ev := by
  cases x with
  | none => rfl
  | some x => simp [ev_tmp h]

theorem ev_congr {o : AOp} {t t' : Tm} {h : H} (hh : ∀ n ∈ o.tmps, t.v n = t'.v n) : o.ev t.ev h = o.ev t'.ev h := by
  cases o <;> simp only [AOp.tmps, List.mem_append] at hh <;>
    first
    | (have h1 := ev_tmp hh; simp only [AOp.ev, h1]; done)
    | (have h1 := ev_tmp fun n hn => hh n (.inl hn); have h2 := ev_tmp fun n hn => hh n (.inr hn); simp only [AOp.ev, h1, h2]; done)
    | (have h1 := ev_tmp fun n hn => hh n (.inl (.inl hn)); have h2 := ev_tmp fun n hn => hh n (.inl (.inr hn)); have h3 := ev_tmp fun n hn => hh n (.inr hn); simp only [AOp.ev, h1, h2, h3]; done)
    | (have h1 := ev_tmp fun n hn => hh n (.inl hn); have h2 := ev_tmps fun n hn => hh n (.inr hn); simp only [AOp.ev, h1, h2]; done)
    | (have h1 := ev_tmp fun n hn => hh n (.inl (.inl hn)); have h2 := ev_opt fun n hn => hh n (.inl (.inr hn)); have h3 := ev_opt fun n hn => hh n (.inr hn); simp only [AOp.ev, h1, h2, h3]; done)
    | (have h1 := ev_tmp fun n hn => hh n (.inl (.inl (.inl hn))); have h2 := ev_opt fun n hn => hh n (.inl (.inl (.inr hn))); have h3 := ev_opt fun n hn => hh n (.inl (.inr hn)); have h4 := ev_opt fun n hn => hh n (.inr hn); simp only [AOp.ev, h1, h2, h3, h4]; done)
    | (have h1 := ev_tmps hh; simp only [AOp.ev, h1]; done)
    | rfl
    | skip
  case build z ps =>
    have : (ps.map fun p => (p.1, p.2.1, t.ev p.2.2)) = ps.map fun p => (p.1, p.2.1, t'.ev p.2.2) := List.map_congr_left fun p hp => by rw [ev_tmp fun n hn => hh n (List.mem_flatMap.2 ⟨p, hp, hn⟩)]
    simp only [AOp.ev, this]
  case mkSl z b len ps =>
    have : (ps.map fun p => (p.1, t.ev p.2)) = ps.map fun p => (p.1, t'.ev p.2) := List.map_congr_left fun p hp => by rw [ev_tmp fun n hn => hh n (List.mem_flatMap.2 ⟨p, hp, hn⟩)]
    simp only [AOp.ev, this]

theorem evOp_congr {R : RunT} {o : AAct} {t t' : Tm} {h : H} (hh : ∀ n ∈ o.tmps, t.v n = t'.v n) : evOp R o t h = evOp R o t' h := by
  cases o with
  | op x => exact ev_congr hh
  | call f xs =>
    simp only [AAct.tmps, List.mem_append] at hh
    have h1 := ev_tmp fun n hn => hh n (.inl hn)
    have h2 := ev_tmps fun n hn => hh n (.inr hn)
    simp only [evOp, h1, h2]
  | inv tbl x xs =>
    simp only [AAct.tmps, List.mem_append] at hh
    have h1 := ev_tmp fun n hn => hh n (.inl hn)
    have h2 := ev_tmps fun n hn => hh n (.inr hn)
    simp only [evOp, h1, h2]

/-- What only computes, looks at no heap. -/
theorem ev_pure {o : AOp} (hk : o.kind = .pure) {ρ : AOpd → V} {h g h' : H} {v : V} (hev : o.ev ρ h = some (v, h')) : h' = h ∧ o.ev ρ g = some (v, g) := by
  cases o <;> simp only [AOp.kind] at hk <;> first | (cases hk; done) | skip
  all_goals simp only [AOp.ev] at hev ⊢
  all_goals first
    | (cases hev; exact ⟨rfl, rfl⟩)
    | (obtain ⟨x, hx, hev⟩ := Option.bind_eq_some_iff.1 hev; cases hev; exact ⟨rfl, by rw [hx]; rfl⟩)
    | (split at hev <;> first
        | (cases hev; done)
        | (simp only [Option.some.injEq, Prod.mk.injEq] at hev; obtain ⟨rfl, rfl⟩ := hev; exact ⟨rfl, by simp [*]⟩)
        | (obtain ⟨x, hx, hev⟩ := Option.bind_eq_some_iff.1 hev; cases hev; exact ⟨rfl, by simp [*]⟩)
        | (obtain ⟨x, hx, hev⟩ := Option.bind_eq_some_iff.1 hev; obtain ⟨y, hy, hev⟩ := Option.bind_eq_some_iff.1 hev; cases hev; exact ⟨rfl, by simp [*]⟩)
        | (split at hev <;> first
            | (cases hev; done)
            | (simp only [Option.some.injEq, Prod.mk.injEq] at hev; obtain ⟨rfl, rfl⟩ := hev; exact ⟨rfl, by simp [*]⟩)
            | (obtain ⟨x, hx, hev⟩ := Option.bind_eq_some_iff.1 hev; cases hev; exact ⟨rfl, by simp [*]⟩)))
    | skip
  case bad => cases hev
  case lenV k x =>
    cases k with
    | map => cases hk
    | str => split at hev <;> simp_all
    | sl => split at hev <;> simp_all

/-- What looks at a heap, looks at its blocks. -/
theorem ev_read {o : AOp} (hk : o.kind = .read) {ρ : AOpd → V} {h h' : H} {v : V} (hev : o.ev ρ h = some (v, h')) (m : Nat) : h' = h ∧ o.ev ρ ⟨m, h.tr⟩ = some (v, ⟨m, h.tr⟩) := by
  have hg : ∀ b, H.get ⟨m, h.tr⟩ b = h.get b := fun _ => rfl
  have hrow : ∀ b r, H.row ⟨m, h.tr⟩ b r = h.row b r := fun _ _ => rfl
  have hrd : ∀ b r f n, H.rd ⟨m, h.tr⟩ b r f n = h.rd b r f n := fun _ _ _ _ => rfl
  have hko : ∀ b, H.kOf ⟨m, h.tr⟩ b = h.kOf b := fun _ => rfl
  have hbs : ∀ a n, H.bseg ⟨m, h.tr⟩ a n = h.bseg a n := fun _ _ => rfl
  cases o <;> simp only [AOp.kind] at hk <;> first | (cases hk; done) | skip
  case load n agg x =>
    simp only [AOp.ev, hrd] at hev ⊢
    split at hev
    · obtain ⟨x, hx, hev⟩ := Option.bind_eq_some_iff.1 hev; obtain ⟨y, hy, hev⟩ := Option.bind_eq_some_iff.1 hev; cases hev; exact ⟨rfl, by simp [*]⟩
    · cases hev
  case sliceL k x lo hi mx =>
    simp only [AOp.ev, hko] at hev ⊢
    split at hev
    · rename_i a len cap ex hx
      obtain ⟨u, hu, hev⟩ := Option.bind_eq_some_iff.1 hev
      obtain ⟨u2, hu2, hev⟩ := Option.bind_eq_some_iff.1 hev
      obtain ⟨u3, hu3, hev⟩ := Option.bind_eq_some_iff.1 hev
      split at hev
      · cases hev; exact ⟨rfl, by simp [*]⟩
      · split at hev
        · rename_i hc; cases hev; exact ⟨rfl, by simp [*]⟩
        · cases hev
    · cases hev
  case ia k x i =>
    simp only [AOp.ev, hko] at hev ⊢
    split at hev
    · split at hev
      · rename_i hc; cases hev; exact ⟨rfl, by simp [*]⟩
      · cases hev
    · cases hev
  case convBS x =>
    simp only [AOp.ev, hbs] at hev ⊢
    split at hev
    · obtain ⟨x, hx, hev⟩ := Option.bind_eq_some_iff.1 hev; cases hev; exact ⟨rfl, by simp [*]⟩
    · cases hev
  case lk kk z ok mm k =>
    simp only [AOp.ev, hg] at hev ⊢
    split at hev
    · cases hev; exact ⟨rfl, by simp [*]⟩
    · split at hev
      · obtain ⟨x, hx, hev⟩ := Option.bind_eq_some_iff.1 hev
        split at hev <;> (cases hev; exact ⟨rfl, by simp [*]⟩)
      · cases hev
    · cases hev
  case lenV k x =>
    cases k with
    | map =>
      simp only [AOp.ev, hg] at hev ⊢
      split at hev <;> first | (cases hev; done) | skip
      all_goals simp_all
      all_goals (split at hev <;> simp_all)
    | str => cases hk
    | sl => cases hk

theorem H.push_inj {h : H} {x y : Blk} (hh : h.push x = h.push y) : x = y := by
  have := congrArg (fun g : H => g.get h.nx) hh
  simpa [H.get_push] using this

/-- What makes a block, makes it whatever lies there. -/
theorem ev_alloc {o : AOp} (hk : o.kind = .alloc) {ρ : AOpd → V} {h h' : H} {v : V} (hev : o.ev ρ h = some (v, h')) : ∃ blk, h' = h.push blk ∧ ∀ tr, o.ev ρ ⟨h.nx, tr⟩ = some (v, H.push ⟨h.nx, tr⟩ blk) := by
  cases o <;> simp only [AOp.kind] at hk <;> first | (cases hk; done) | skip
  all_goals simp only [AOp.ev] at hev ⊢
  all_goals first
    | (cases hev; exact ⟨_, rfl, fun _ => rfl⟩)
    | (split at hev <;> first
        | (cases hev; done)
        | (rename_i hc; cases hev; exact ⟨_, rfl, fun _ => by rw [if_neg hc]⟩)
        | (rename_i hc; cases hev; exact ⟨_, rfl, fun _ => by rw [if_pos hc]⟩)
        | (cases hev; exact ⟨_, rfl, fun _ => by simp [*]⟩))
    | skip
  case mkSl z b len ps =>
    obtain ⟨rs, hrs, hev⟩ := Option.bind_eq_some_iff.1 hev
    split at hev
    · rename_i hb
      obtain ⟨bs, hbs, hev⟩ := Option.bind_eq_some_iff.1 hev
      split at hev
      · rename_i hc; cases hev; exact ⟨_, rfl, fun _ => by rw [hrs]; simp only [Option.bind_some]; rw [if_pos hb, hbs]; simp only [Option.bind_some]; rw [if_pos hc]⟩
      · cases hev
    · split at hev
      · cases hev
      · rename_i hc; cases hev; exact ⟨_, rfl, fun _ => by simp [*]⟩
  case mkS z b bytes len cap =>
    split at hev
    · rename_i l c hl hc
      split at hev
      · rename_i hcond
        split at hev
        · split at hev
          · cases hev; exact ⟨_, rfl, fun _ => by simp [*]⟩
          · cases hev
        · cases hev; exact ⟨_, rfl, fun _ => by simp [*]⟩
      · cases hev
    · cases hev
  case lenV k x => cases k <;> cases hk

end Am
