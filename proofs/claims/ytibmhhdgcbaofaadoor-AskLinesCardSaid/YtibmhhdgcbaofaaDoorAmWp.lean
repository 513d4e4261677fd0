/- AmWp: what must hold ahead of a piece of code, so that it ends and something holds behind it. -/
import Derived.Test.YtibmhhdgcbaofaaDoorAmMono
namespace Am
set_option linter.unusedVariables false
set_option linter.unusedSimpArgs false
open Go (IntKind BinOp UnOp)

/-- A call ends, and this holds of its answer. -/
def Runs (pr : Prog) (c : Cal) (as : List V) (h : H) (K : V → H → Prop) : Prop := ∃ n v h', runN pr n c as h = some (v, h') ∧ K v h'
def wpOp (op : AOp) (t : Tm) (h : H) (K : V → H → Prop) : Prop := ∃ r, op.ev t.ev h = some r ∧ K r.1 r.2
def wpCall (pr : Prog) (f : V) (as : List V) (h : H) (K : V → H → Prop) : Prop :=
  match f with
  | .f c caps => Runs pr c (as ++ caps) h K
  | _ => False
def wpInv (pr : Prog) (tbl : List (Nat × Nat)) (x : V) (as : List V) (h : H) (K : V → H → Prop) : Prop :=
  match x with
  | .ifc ty v => match inTbl tbl ty with
    | some f => Runs pr (.fn f) (v :: as) h K
    | none => False
  | _ => False
def wpAct (pr : Prog) (a : AAct) (t : Tm) (h : H) (K : V → H → Prop) : Prop :=
  match a with
  | .call f args => wpCall pr (t.ev f) (args.map t.ev) h K
  | .inv tbl x args => wpInv pr tbl (t.ev x) (args.map t.ev) h K
  | .op op => wpOp op t h K
def wpOps (pr : Prog) : List AOper → Tm → H → (Tm → H → Prop) → Prop
  | [], t, h, Q => Q t h
  | o :: os, t, h, Q => if o.wanted t then wpAct pr o.op t h (fun v h' => wpOps pr os (t.pd o.dst v) h' Q) else wpOps pr os (t.pd o.dst .un) h Q
def wpOpsD (pr : Prog) : List AOper → Tm → H → List H → (Tm → H → Prop) → Prop
  | [], t, h, _, Q => Q t h
  | o :: os, t, h, hs, Q => if o.wanted t then wpAct pr o.op t h (fun v h' => (looked o t.ev v hs && Nat.ble h.nx h'.nx) = true ∧ wpOpsD pr os (t.pd o.dst v) h' (behind o.op h' hs) Q)
      else wpOpsD pr os (t.pd o.dst .un) h (behind o.op h hs) Q
def wpA (pr : Prog) (nt : Nat) (ar : Option Nat) (c : ACode) (t : Tm) (h : H) (Q : Ex → Tm → H → Prop) : Prop :=
  ∃ n ex t' h', evA (runN pr n) (fun b s => iter b n s) nt ar c t h = some (ex, t', h') ∧ Q ex t' h'

variable {pr : Prog} {nt : Nat} {ar : Option Nat}

theorem Runs.mono {c : Cal} {as : List V} {h : H} {K K' : V → H → Prop} (hr : Runs pr c as h K) (hk : ∀ v h', K v h' → K' v h') : Runs pr c as h K' :=
  let ⟨n, v, h', a, b⟩ := hr; ⟨n, v, h', a, hk _ _ b⟩
theorem wpA_mono {c : ACode} {t : Tm} {h : H} {Q Q' : Ex → Tm → H → Prop} (hr : wpA pr nt ar c t h Q) (hk : ∀ e t' h', Q e t' h' → Q' e t' h') : wpA pr nt ar c t h Q' :=
  let ⟨n, e, t', h', a, b⟩ := hr; ⟨n, e, t', h', a, hk _ _ _ b⟩
theorem wpAct_mono {a : AAct} {t : Tm} {h : H} {K K' : V → H → Prop} (hr : wpAct pr a t h K) (hk : ∀ v h', K v h' → K' v h') : wpAct pr a t h K' := by
  cases a with
  | op x => obtain ⟨r, a, b⟩ := hr; exact ⟨r, a, hk _ _ b⟩
  | call f args =>
    show wpCall pr (t.ev f) (args.map t.ev) h K'
    have hr : wpCall pr (t.ev f) (args.map t.ev) h K := hr
    generalize t.ev f = z at hr
    cases z with
    | f c caps => exact Runs.mono hr hk
    | _ => exact hr.elim
  | inv tbl x args =>
    show wpInv pr tbl (t.ev x) (args.map t.ev) h K'
    have hr : wpInv pr tbl (t.ev x) (args.map t.ev) h K := hr
    generalize t.ev x = z at hr
    cases z with
    | ifc ty v =>
      unfold wpInv at hr ⊢
      simp only at hr ⊢
      split at hr
      · exact Runs.mono hr hk
      · exact hr.elim
    | _ => exact hr.elim
theorem wpOps_mono {Q Q' : Tm → H → Prop} (hk : ∀ t' h', Q t' h' → Q' t' h') : ∀ {ops : List AOper} {t : Tm} {h : H}, wpOps pr ops t h Q → wpOps pr ops t h Q'
  | [], t, h, hr => hk _ _ hr
  | o :: os, t, h, hr => by
    unfold wpOps at hr ⊢
    split at hr
    · rename_i hw
      rw [if_pos hw]
      exact wpAct_mono hr fun v h' => wpOps_mono hk
    · rename_i hw
      rw [if_neg hw]
      exact wpOps_mono hk hr

/-! ### What the runner does is what these say -/
theorem evOp_of_wp {a : AAct} {t : Tm} {h : H} {K : V → H → Prop} : wpAct pr a t h K ↔ ∃ n v h', evOp (runN pr n) a t h = some (v, h') ∧ K v h' := by
  cases a with
  | op x =>
    constructor
    · rintro ⟨⟨v, h'⟩, a, b⟩; exact ⟨0, v, h', a, b⟩
    · rintro ⟨n, v, h', a, b⟩; exact ⟨(v, h'), a, b⟩
  | call f args =>
    constructor
    · intro hr
      have hr : wpCall pr (t.ev f) (args.map t.ev) h K := hr
      cases hf : t.ev f with
      | f c caps =>
        rw [hf] at hr
        obtain ⟨n, v, h', a, b⟩ := hr
        refine ⟨n, v, h', ?_, b⟩
        simp only [evOp, hf]; exact a
      | _ => rw [hf] at hr; exact hr.elim
    · rintro ⟨n, v, h', a, b⟩
      show wpCall pr (t.ev f) (args.map t.ev) h K
      unfold evOp at a
      simp only at a
      cases hf : t.ev f with
      | f c caps => rw [hf] at a; exact ⟨n, v, h', a, b⟩
      | _ => rw [hf] at a; cases a
  | inv tbl x args =>
    constructor
    · intro hr
      have hr : wpInv pr tbl (t.ev x) (args.map t.ev) h K := hr
      cases hf : t.ev x with
      | ifc ty v =>
        rw [hf] at hr
        unfold wpInv at hr
        simp only at hr
        split at hr
        · rename_i f hin
          obtain ⟨n, v', h', a, b⟩ := hr
          refine ⟨n, v', h', ?_, b⟩
          simp only [evOp, hf, hin]; exact a
        · exact hr.elim
      | _ => rw [hf] at hr; exact hr.elim
    · rintro ⟨n, v, h', a, b⟩
      show wpInv pr tbl (t.ev x) (args.map t.ev) h K
      unfold evOp at a
      simp only at a
      cases hf : t.ev x with
      | ifc ty v0 =>
        rw [hf] at a
        simp only at a
        unfold wpInv
        simp only
        cases hin : inTbl tbl ty with
        | some f => rw [hin] at a; exact ⟨n, v, h', a, b⟩
        | none => rw [hin] at a; cases a
      | _ => rw [hf] at a; cases a

theorem evOps_of_wp : ∀ {ops : List AOper} {t : Tm} {h : H} {Q : Tm → H → Prop}, wpOps pr ops t h Q ↔ ∃ n t' h', evOps (runN pr n) ops t h = some (t', h') ∧ Q t' h'
  | [], t, h, Q => ⟨fun hr => ⟨0, t, h, rfl, hr⟩, fun ⟨n, t', h', a, b⟩ => by cases a; exact b⟩
  | o :: os, t, h, Q => by
    unfold wpOps
    by_cases hw : o.wanted t = true
    · rw [if_pos hw, evOp_of_wp]
      constructor
      · rintro ⟨n, v, h1, a, b⟩
        obtain ⟨m, t', h', c, d⟩ := evOps_of_wp.1 b
        refine ⟨max n m, t', h', ?_, d⟩
        unfold evOps
        rw [if_pos hw, evOp_mono (runN_mono pr (Nat.le_max_left n m)) a]
        exact evOps_mono (runN_mono pr (Nat.le_max_right n m)) c
      · rintro ⟨n, t', h', a, b⟩
        unfold evOps at a
        rw [if_pos hw] at a
        obtain ⟨⟨v, h1⟩, c, d⟩ := Option.bind_eq_some_iff.1 a
        exact ⟨n, v, h1, c, evOps_of_wp.2 ⟨n, t', h', d, b⟩⟩
    · rw [if_neg hw, evOps_of_wp]
      constructor
      · rintro ⟨n, t', h', a, b⟩; exact ⟨n, t', h', by unfold evOps; rw [if_neg hw]; exact a, b⟩
      · rintro ⟨n, t', h', a, b⟩; exact ⟨n, t', h', by unfold evOps at a; rw [if_neg hw] at a; exact a, b⟩

theorem evOpsD_of_wp : ∀ {ops : List AOper} {t : Tm} {h : H} {hs : List H} {Q : Tm → H → Prop}, wpOpsD pr ops t h hs Q ↔ ∃ n t' h', evOpsD (runN pr n) ops t h hs = some (t', h') ∧ Q t' h'
  | [], t, h, hs, Q => ⟨fun hr => ⟨0, t, h, rfl, hr⟩, fun ⟨n, t', h', a, b⟩ => by cases a; exact b⟩
  | o :: os, t, h, hs, Q => by
    unfold wpOpsD
    by_cases hw : o.wanted t = true
    · rw [if_pos hw, evOp_of_wp]
      constructor
      · rintro ⟨n, v, h1, a, l, b⟩
        obtain ⟨m, t', h', c, d⟩ := evOpsD_of_wp.1 b
        refine ⟨max n m, t', h', ?_, d⟩
        unfold evOpsD stepD
        rw [if_pos hw, evOp_mono (runN_mono pr (Nat.le_max_left n m)) a]
        simp only [Option.bind_some, l, if_true]
        exact evOpsD_mono (runN_mono pr (Nat.le_max_right n m)) c
      · rintro ⟨n, t', h', a, b⟩
        unfold evOpsD stepD at a
        rw [if_pos hw] at a
        obtain ⟨⟨v, h1⟩, c, d⟩ := Option.bind_eq_some_iff.1 a
        obtain ⟨⟨v2, h2⟩, c1, c2⟩ := Option.bind_eq_some_iff.1 c
        split at c2
        · rename_i hl
          cases c2
          exact ⟨n, v, h1, c1, hl, evOpsD_of_wp.2 ⟨n, t', h', d, b⟩⟩
        · cases c2
    · rw [if_neg hw, evOpsD_of_wp]
      constructor
      · rintro ⟨n, t', h', a, b⟩; exact ⟨n, t', h', by unfold evOpsD stepD; rw [if_neg hw]; exact a, b⟩
      · rintro ⟨n, t', h', a, b⟩; exact ⟨n, t', h', by unfold evOpsD stepD at a; rw [if_neg hw] at a; exact a, b⟩

variable {t : Tm} {h : H} {Q : Ex → Tm → H → Prop}

theorem wpA_skip : wpA pr nt ar .skip t h Q ↔ Q .normal t h :=
  ⟨fun ⟨n, e, t', h', a, b⟩ => by cases a; exact b, fun b => ⟨0, _, _, _, rfl, b⟩⟩
theorem wpA_exit {id : Nat} : wpA pr nt ar (.exit id) t h Q ↔ Q (.exit id) t h :=
  ⟨fun ⟨n, e, t', h', a, b⟩ => by cases a; exact b, fun b => ⟨0, _, _, _, rfl, b⟩⟩
theorem wpA_ret : wpA pr nt ar .ret t h Q ↔ Q .ret t h :=
  ⟨fun ⟨n, e, t', h', a, b⟩ => by cases a; exact b, fun b => ⟨0, _, _, _, rfl, b⟩⟩
theorem wpA_region {ops : List AOper} : wpA pr nt ar (.region ops) t h Q ↔ wpOps pr ops t h (Q .normal) := by
  rw [evOps_of_wp]
  constructor
  · rintro ⟨n, e, t', h', a, b⟩
    unfold evA at a
    obtain ⟨⟨t1, h1⟩, c, d⟩ := Option.bind_eq_some_iff.1 a
    cases d
    exact ⟨n, _, _, c, b⟩
  · rintro ⟨n, t', h', a, b⟩
    exact ⟨n, _, _, _, by unfold evA; rw [a]; rfl, b⟩
theorem wpA_regionD {ops : List AOper} : wpA pr nt ar (.regionD ops) t h Q ↔ wpOpsD pr ops t h [h] (Q .normal) := by
  rw [evOpsD_of_wp]
  constructor
  · rintro ⟨n, e, t', h', a, b⟩
    unfold evA at a
    obtain ⟨⟨t1, h1⟩, c, d⟩ := Option.bind_eq_some_iff.1 a
    cases d
    exact ⟨n, _, _, c, b⟩
  · rintro ⟨n, t', h', a, b⟩
    exact ⟨n, _, _, _, by unfold evA; rw [a]; rfl, b⟩

/-- What holds behind the first of two. -/
def thenQ (K : Tm → H → Prop) (Q : Ex → Tm → H → Prop) (e : Ex) (t : Tm) (h : H) : Prop :=
  match e with
  | .normal => K t h
  | e => Q e t h
theorem thenQ_normal {K : Tm → H → Prop} : thenQ K Q .normal t h = K t h := rfl
theorem thenQ_exit {K : Tm → H → Prop} {id : Nat} : thenQ K Q (.exit id) t h = Q (.exit id) t h := rfl
theorem thenQ_ret {K : Tm → H → Prop} : thenQ K Q .ret t h = Q .ret t h := rfl
theorem wpA_seq {a b : ACode} : wpA pr nt ar (.seq a b) t h Q ↔ wpA pr nt ar a t h (thenQ (fun t h => wpA pr nt ar b t h Q) Q) := by
  constructor
  · rintro ⟨n, e, t', h', x, y⟩
    unfold evA at x
    obtain ⟨⟨e1, t1, h1⟩, c, d⟩ := Option.bind_eq_some_iff.1 x
    refine ⟨n, e1, t1, h1, c, ?_⟩
    cases e1 with
    | normal => exact ⟨n, e, t', h', d, y⟩
    | exit id => cases d; exact y
    | ret => cases d; exact y
  · rintro ⟨n, e1, t1, h1, c, d⟩
    cases e1 with
    | normal =>
      obtain ⟨m, e, t', h', x, y⟩ := d
      refine ⟨max n m, e, t', h', ?_, y⟩
      unfold evA
      rw [evA_mono (runN_mono pr (Nat.le_max_left n m)) (iter_le (Nat.le_max_left n m)) _ _ c]
      exact evA_mono (runN_mono pr (Nat.le_max_right n m)) (iter_le (Nat.le_max_right n m)) _ _ x
    | exit id => exact ⟨n, _, _, _, by unfold evA; rw [c]; rfl, d⟩
    | ret => exact ⟨n, _, _, _, by unfold evA; rw [c]; rfl, d⟩
theorem evA_cond {R : RunT} {I : IterT} {c : AOpd} {x y : ACode} : evA R I nt ar (.cond c x y) t h = match t.ev c with
    | .b v => if v then evA R I nt ar x t h else evA R I nt ar y t h
    | _ => none := rfl
theorem wpA_cond_t {c : AOpd} {x y : ACode} (hc : t.ev c = .b true) : wpA pr nt ar (.cond c x y) t h Q ↔ wpA pr nt ar x t h Q := by
  unfold wpA; simp only [evA_cond, hc, if_true]
theorem wpA_cond_f {c : AOpd} {x y : ACode} (hc : t.ev c = .b false) : wpA pr nt ar (.cond c x y) t h Q ↔ wpA pr nt ar y t h Q := by
  unfold wpA; simp only [evA_cond, hc, Bool.false_eq_true, if_false]
theorem wpA_cond {c : AOpd} {x y : ACode} {b : Bool} (hc : t.ev c = .b b) (hx : b = true → wpA pr nt ar x t h Q) (hy : b = false → wpA pr nt ar y t h Q) : wpA pr nt ar (.cond c x y) t h Q := by
  cases b
  · exact (wpA_cond_f hc).2 (hy rfl)
  · exact (wpA_cond_t hc).2 (hx rfl)
def blockQ (id : Nat) (Q : Ex → Tm → H → Prop) (e : Ex) (t : Tm) (h : H) : Prop :=
  match e with
  | .exit id' => if id' = id then Q .normal t h else Q (.exit id') t h
  | e => Q e t h
theorem blockQ_normal {id : Nat} : blockQ id Q .normal t h = Q .normal t h := rfl
theorem blockQ_exit {id id' : Nat} : blockQ id Q (.exit id') t h = if id' = id then Q .normal t h else Q (.exit id') t h := rfl
theorem blockQ_ret {id : Nat} : blockQ id Q .ret t h = Q .ret t h := rfl
theorem wpA_block {id : Nat} {c : ACode} : wpA pr nt ar (.block id c) t h Q ↔ wpA pr nt ar c t h (blockQ id Q) := by
  constructor
  · rintro ⟨n, e, t', h', x, y⟩
    unfold evA at x
    obtain ⟨⟨e1, t1, h1⟩, c, d⟩ := Option.bind_eq_some_iff.1 x
    refine ⟨n, e1, t1, h1, c, ?_⟩
    cases e1 with
    | normal => cases d; exact y
    | exit id' =>
      simp only at d
      show (if id' = id then _ else _)
      split at d <;> rename_i hi <;> cases d
      · rw [if_pos hi]; exact y
      · rw [if_neg hi]; exact y
    | ret => cases d; exact y
  · rintro ⟨n, e1, t1, h1, c, d⟩
    cases e1 with
    | normal => exact ⟨n, _, _, _, by unfold evA; rw [c]; rfl, d⟩
    | exit id' =>
      by_cases hi : id' = id
      · refine ⟨n, .normal, t1, h1, by unfold evA; rw [c]; simp [hi], ?_⟩
        have : (if id' = id then Q .normal t1 h1 else Q (.exit id') t1 h1) := d
        rw [if_pos hi] at this; exact this
      · refine ⟨n, .exit id', t1, h1, by unfold evA; rw [c]; simp [hi], ?_⟩
        have : (if id' = id then Q .normal t1 h1 else Q (.exit id') t1 h1) := d
        rw [if_neg hi] at this; exact this
    | ret => exact ⟨n, _, _, _, by unfold evA; rw [c]; rfl, d⟩

/-! ### Loops -/
def bodyF (pr : Prog) (nt : Nat) (ar : Option Nat) (c : ACode) (n : Nat) (s : Tm × H) : Option (Option Ex × (Tm × H)) :=
  (evA (runN pr n) (fun b s => iter b n s) nt ar c s.1 s.2).bind fun r => match r.1 with
    | .normal => some (none, r.2)
    | e => some (some e, r.2)
theorem bodyF_mono {c : ACode} {n m : Nat} (hn : n ≤ m) (s : Tm × H) (r : Option Ex × (Tm × H)) (hb : bodyF pr nt ar c n s = some r) : bodyF pr nt ar c m s = some r := by
  unfold bodyF at hb ⊢
  obtain ⟨q, h1, h2⟩ := Option.bind_eq_some_iff.1 hb
  rw [evA_mono (runN_mono pr hn) (iter_le hn) _ _ h1]; exact h2
theorem evA_loop {c : ACode} {n : Nat} : evA (runN pr n) (fun b s => iter b n s) nt ar (.loop c) t h = iter (bodyF pr nt ar c n) n (t, h) := rfl

/-- One round, and then the rest. -/
theorem wpA_loop {c : ACode} (hr : wpA pr nt ar c t h (thenQ (fun t h => wpA pr nt ar (.loop c) t h Q) Q)) : wpA pr nt ar (.loop c) t h Q := by
  obtain ⟨n, e1, t1, h1, c1, d⟩ := hr
  cases e1 with
  | normal =>
    obtain ⟨m, e, t', h', x, y⟩ := d
    refine ⟨max n m + 1, e, t', h', ?_, y⟩
    rw [evA_loop] at x ⊢
    unfold iter
    have : bodyF pr nt ar c (max n m + 1) (t, h) = some (none, t1, h1) := bodyF_mono (n := n) (by omega) _ _ (by unfold bodyF; rw [c1]; rfl)
    rw [this]
    exact iter_mono (Nat.le_max_right n m) (bodyF_mono (by omega)) x
  | exit id =>
    refine ⟨n + 1, _, t1, h1, ?_, d⟩
    rw [evA_loop]
    unfold iter
    have : bodyF pr nt ar c (n + 1) (t, h) = some (some (.exit id), t1, h1) := bodyF_mono (n := n) (by omega) _ _ (by unfold bodyF; rw [c1]; rfl)
    rw [this]; rfl
  | ret =>
    refine ⟨n + 1, _, t1, h1, ?_, d⟩
    rw [evA_loop]
    unfold iter
    have : bodyF pr nt ar c (n + 1) (t, h) = some (some .ret, t1, h1) := bodyF_mono (n := n) (by omega) _ _ (by unfold bodyF; rw [c1]; rfl)
    rw [this]; rfl

/-- A loop by what holds at its head, with a number that falls. -/
theorem wpA_loop_inv {c : ACode} (M : Nat → Tm → H → Prop) (hr : ∀ m t h, M m t h → wpA pr nt ar c t h (thenQ (fun t h => ∃ m', m' < m ∧ M m' t h) Q)) : ∀ {m : Nat} {t : Tm} {h : H}, M m t h → wpA pr nt ar (.loop c) t h Q := by
  intro m
  induction m using Nat.strongRecOn with
  | ind m ih =>
    intro t h hm
    refine wpA_loop (wpA_mono (hr m t h hm) ?_)
    intro e t' h' hq
    cases e with
    | normal => obtain ⟨m', hlt, hm'⟩ := hq; exact ih m' hlt hm'
    | exit id => exact hq
    | ret => exact hq

/-! ### Functions -/
def wpRes (rs : List ARes) (K : V → H → Prop) (e : Ex) (t : Tm) (h : H) : Prop :=
  match e with
  | .exit _ => False
  | _ => ∃ vs, evRes t h rs = some vs ∧ K (resV vs) h
def wpF (pr : Prog) (af : AFunc) (args : List V) (h : H) (K : V → H → Prop) : Prop :=
  args.length ≤ af.ntmps ∧ wpA pr af.ntmps none af.code (Tm.args args 0) h (wpRes af.results K)
theorem runs_of_wpF {f : Nat} {af : AFunc} {args : List V} {K : V → H → Prop} (he : pr.ext f = none) (hf : pr.fn f = some af) (hw : wpF pr af args h K) : Runs pr (.fn f) args h K := by
  obtain ⟨hl, n, e, t', h', x, y⟩ := hw
  cases e with
  | exit id => exact y.elim
  | normal =>
    obtain ⟨vs, h1, h2⟩ := y
    refine ⟨n + 1, resV vs, h', ?_, h2⟩
    simp only [runN, evCal, he, hf, evFn]
    rw [if_pos hl, x]
    simp [h1]
  | ret =>
    obtain ⟨vs, h1, h2⟩ := y
    refine ⟨n + 1, resV vs, h', ?_, h2⟩
    simp only [runN, evCal, he, hf, evFn]
    rw [if_pos hl, x]
    simp [h1]
theorem runs_ext {f : Nat} {g : List V → H → Option (V × H)} {args : List V} {K : V → H → Prop} {r : V × H} (he : pr.ext f = some g) (hy : isYl args = false) (hg : g args h = some r) (hk : K r.1 r.2) : Runs pr (.fn f) args h K :=
  ⟨1, r.1, r.2, by simp only [runN, evCal, he, hy]; exact hg, hk⟩

end Am
