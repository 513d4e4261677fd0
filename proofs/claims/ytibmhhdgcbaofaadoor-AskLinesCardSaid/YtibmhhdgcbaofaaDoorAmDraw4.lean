/- AmDraw4: the invariant of a region that draws its order. -/
import Derived.Test.YtibmhhdgcbaofaaDoorAmDraw3
namespace Am
set_option linter.unusedVariables false
set_option linter.unusedSimpArgs false
open Go (IntKind BinOp UnOp Value Program TypeId TypeDesc Operand Oper Code Tmp World Addr Obj Act Fence)

variable {P : Program} {B nt : Nat} {R : RunT} {ops : Array Oper} {L : List (Nat × AOper)} {T : Nat → Tm} {G : Nat → H} {K : Nat → List H} {vv : Nat → V}

def Made (T : Nat → Tm) (p : Nat) (x : AOper) : Prop := x.op.kind = .alloc ∧ x.wanted (T p) = true

/-- The one order's run. -/
structure Can (P : Program) (nt : Nat) (R : RunT) (ops : Array Oper) (L : List (Nat × AOper)) (T : Nat → Tm) (G : Nat → H) (K : Nat → List H) (vv : Nat → V) : Prop where
  ord : OrdOk ops (befores ops) L
  all : ∀ i : Nat, i < ops.size → ∃ (p : Nat) (x : AOper), L[p]? = some (i, x)
  comp : ∀ {p i : Nat} {x : AOper} {o : Oper}, L[p]? = some (i, x) → ops[i]? = some o → ∃ k, compOper P nt ops k o = some x
  st : ∀ {p i : Nat} {x : AOper}, L[p]? = some (i, x) → stepD R x (T p) (G p) (K p) = some (vv p, G (p + 1))
  tt : ∀ {p i : Nat} {x : AOper}, L[p]? = some (i, x) → T (p + 1) = (T p).pd x.dst (vv p)
  kk : ∀ p, p ≤ L.length → K p = (epos L p).map (fun q => G (q + 1)) ++ [G 0]

namespace Can
theorem uniq (can : Can P nt R ops L T G K vv) {p q i : Nat} {x y : AOper} (hp : L[p]? = some (i, x)) (hq : L[q]? = some (i, y)) : p = q ∧ x = y := by
  have : p = q := by
    rcases Nat.lt_trichotomy p q with h | h | h
    · exact absurd rfl (can.ord.new hq hp h)
    · exact h
    · exact absurd rfl (can.ord.new hp hq h)
  subst this
  rw [hp] at hq; cases hq
  exact ⟨rfl, rfl⟩

theorem unw (can : Can P nt R ops L T G K vv) {p i : Nat} {x : AOper} (hp : L[p]? = some (i, x)) (hw : x.wanted (T p) = false) : vv p = .un ∧ G (p + 1) = G p := by
  have h := can.st hp
  unfold stepD at h
  rw [if_neg (by simp [hw])] at h
  simp at h
  exact ⟨h.1.symm, h.2.symm⟩

theorem wan (can : Can P nt R ops L T G K vv) {p i : Nat} {x : AOper} (hp : L[p]? = some (i, x)) (hw : x.wanted (T p) = true) :
    evOp R x.op (T p) (G p) = some (vv p, G (p + 1)) ∧ looked x (T p).ev (vv p) (K p) = true ∧ (G p).nx ≤ (G (p + 1)).nx := by
  have h := can.st hp
  unfold stepD at h
  rw [if_pos hw] at h
  obtain ⟨⟨v, g⟩, h1, h2⟩ := Option.bind_eq_some_iff.1 h
  split at h2
  · rename_i hc
    simp only [Bool.and_eq_true] at hc
    cases h2
    exact ⟨h1, hc.1, Nat.le_of_ble_eq_true hc.2⟩
  · cases h2

theorem mono1 (can : Can P nt R ops L T G K vv) {p i : Nat} {x : AOper} (hp : L[p]? = some (i, x)) : (G p).nx ≤ (G (p + 1)).nx := by
  cases hw : x.wanted (T p) with
  | true => exact (can.wan hp hw).2.2
  | false => rw [(can.unw hp hw).2]; exact Nat.le_refl _

theorem mono (can : Can P nt R ops L T G K vv) {p q : Nat} (hpq : p ≤ q) (hq : q ≤ L.length) : (G p).nx ≤ (G q).nx := by
  induction hpq with
  | refl => exact Nat.le_refl _
  | @step m hm ih =>
    have hlt : m < L.length := hq
    obtain ⟨⟨i, x⟩, hx⟩ : ∃ q, L[m]? = some q := ⟨L[m], List.getElem?_eq_getElem hlt⟩
    exact Nat.le_trans (ih (by omega)) (can.mono1 hx)

theorem op_of (_ : Can P nt R ops L T G K vv) {p i : Nat} {x : AOper} (_ : L[p]? = some (i, x)) (hk : x.op.kind ≠ .eff) : ∃ ao, x.op = .op ao ∧ ao.kind = x.op.kind := by
  cases hx : x.op with
  | op ao => exact ⟨ao, rfl, rfl⟩
  | call f as => rw [hx] at hk; exact absurd rfl hk
  | inv tbl y as => rw [hx] at hk; exact absurd rfl hk

theorem still (can : Can P nt R ops L T G K vv) {p i : Nat} {x : AOper} (hp : L[p]? = some (i, x)) (hk : x.op.kind ≠ .eff) (hm : ¬ Made T p x) : G (p + 1) = G p := by
  cases hw : x.wanted (T p) with
  | false => exact (can.unw hp hw).2
  | true =>
    obtain ⟨ao, hao, hkk⟩ := can.op_of hp hk
    have h1 := (can.wan hp hw).1
    rw [hao] at h1
    simp only [evOp] at h1
    cases hkind : ao.kind with
    | pure => exact (ev_pure hkind (g := G p) h1).1
    | read => exact (ev_read hkind h1 0).1
    | alloc => exact absurd ⟨by rw [← hkk, hkind], hw⟩ hm
    | eff => rw [← hkk] at hk; exact absurd hkind hk

theorem madeAt (can : Can P nt R ops L T G K vv) {p i : Nat} {x : AOper} (hp : L[p]? = some (i, x)) (hm : Made T p x) : ∃ ao blk, x.op = .op ao ∧ ao.kind = .alloc ∧ G (p + 1) = (G p).push blk ∧ ∀ tr, ao.ev (T p).ev ⟨(G p).nx, tr⟩ = some (vv p, H.push ⟨(G p).nx, tr⟩ blk) := by
  have hk : x.op.kind ≠ .eff := by rw [hm.1]; decide
  obtain ⟨ao, hao, hkk⟩ := can.op_of hp hk
  have h1 := (can.wan hp hm.2).1
  rw [hao] at h1
  obtain ⟨blk, h2, h3⟩ := ev_alloc (by rw [hkk]; exact hm.1) h1
  exact ⟨ao, blk, hao, by rw [hkk]; exact hm.1, h2, h3⟩

theorem madeNx (can : Can P nt R ops L T G K vv) {p i : Nat} {x : AOper} (hp : L[p]? = some (i, x)) (hm : Made T p x) : (G (p + 1)).nx = (G p).nx + 1 := by
  obtain ⟨_, blk, _, _, h, _⟩ := can.madeAt hp hm
  rw [h]; rfl
end Can

/-- Where it stands, whatever has been done: 'c': behind the last effect. -/
structure Inv (P : Program) (B nt : Nat) (ops : Array Oper) (L : List (Nat × AOper)) (T : Nat → Tm) (G : Nat → H) (e0 : Emb) (h0 : H) (w0 : World) (ds : List Go.Deferred) (listed : Array Bool) (a : Act) (w : World) (c : Nat) (ι : Emb) : Prop where
  lsz : listed.size = ops.size
  clo : ∀ i, listed.getD i false = true → Pre ops (fun j => listed.getD j false = true) i
  cle : c ≤ L.length
  cut : ∀ {p i : Nat} {x : AOper}, L[p]? = some (i, x) → p < c → listed.getD i false = true
  eff : ∀ {p i : Nat} {x : AOper}, L[p]? = some (i, x) → x.op.kind = .eff → listed.getD i false = true → p < c
  cin : c = 0 ∨ ∃ (p i : Nat) (x : AOper), c = p + 1 ∧ L[p]? = some (i, x) ∧ x.op.kind = .eff
  stp : Stp (CC P) B e0 h0 w0 (res ι (G c).nx) (G c) w
  dom : ∀ {b : Nat} {l : Loc}, ι b = some l → b < (G c).nx ∨ ∃ (p i : Nat) (x : AOper), c ≤ p ∧ L[p]? = some (i, x) ∧ listed.getD i false = true ∧ Made T p x ∧ b = (G p).nx
  pend : ∀ {p i : Nat} {x : AOper}, c ≤ p → L[p]? = some (i, x) → listed.getD i false = true → Made T p x → ∃ l blk, ι (G p).nx = some l ∧ G (p + 1) = (G p).push blk ∧
    BlkR (CC P) (res ι (G (p + 1)).nx) blk l w ∧ w0.heap.size ≤ l.cb ∧ l.cb < w.heap.size ∧ ¬ Img (res ι (G c).nx) (G c) l.cb
  dis : ∀ {p i : Nat} {x : AOper} {p' i' : Nat} {x' : AOper} {l l' : Loc}, c ≤ p → L[p]? = some (i, x) → listed.getD i false = true → Made T p x → c ≤ p' → L[p']? = some (i', x') → listed.getD i' false = true → Made T p' x' →
    ι (G p).nx = some l → ι (G p').nx = some l' → p ≠ p' → l.cb ≠ l'.cb
  slot : ∀ d, ∃ m, m ≤ L.length ∧ (m = 0 ∨ ∃ (p i : Nat) (x : AOper), m = p + 1 ∧ L[p]? = some (i, x) ∧ listed.getD i false = true ∧ x.dst = some d) ∧
    (∀ {q j : Nat} {y : AOper}, m ≤ q → L[q]? = some (j, y) → listed.getD j false = true → y.dst ≠ some d) ∧ VR (res ι (G m).nx) ((T m).v d) (a.tmps.getD d Go.undef)
  tsz : a.tmps.size = nt
  dfr : a.defers = ds

variable {e0 : Emb} {h0 : H} {w0 : World} {ds : List Go.Deferred} {listed : Array Bool} {a : Act} {w : World} {c : Nat} {ι : Emb}

theorem adopt_all (can : Can P nt R ops L T G K vv) (hB : B ≤ w0.heap.size) (inv : Inv P B nt ops L T G e0 h0 w0 ds listed a w c ι) {m : Nat} (hc : c ≤ m) (hm : m ≤ L.length)
    (hall : ∀ {q i : Nat} {x : AOper}, q < m → L[q]? = some (i, x) → listed.getD i false = true) :
    Stp (CC P) B e0 h0 w0 (res ι (G m).nx) (G m) w ∧ ∀ {p i : Nat} {x : AOper} {l : Loc}, m ≤ p → L[p]? = some (i, x) → listed.getD i false = true → Made T p x → ι (G p).nx = some l → ¬ Img (res ι (G m).nx) (G m) l.cb := by
  induction hc with
  | refl =>
    refine ⟨inv.stp, fun hp hx hd hmd hl => ?_⟩
    obtain ⟨l', blk, h1, _, _, _, _, h2⟩ := inv.pend hp hx hd hmd
    rw [hl] at h1; cases h1
    exact h2
  | @step m hc ih =>
    have hcm : c ≤ m := hc
    obtain ⟨st, himg⟩ := ih (by omega) (fun hq hx => hall (by omega) hx)
    have hlt : m < L.length := hm
    obtain ⟨⟨i, x⟩, hx⟩ : ∃ q, L[m]? = some q := ⟨L[m], List.getElem?_eq_getElem hlt⟩
    have hD := hall (by omega) hx
    have hk : x.op.kind ≠ .eff := fun hk => by have := inv.eff hx hk hD; omega
    by_cases hmd : Made T m x
    · obtain ⟨l, blk, h1, h2, h3, h4, h5, _⟩ := inv.pend hc hx hD hmd
      have himgm := himg (Nat.le_refl _) hx hD hmd h1
      have hnx := can.madeNx hx hmd
      have hadd : res ι (G (m + 1)).nx = (res ι (G m).nx).add (G m).nx l := by
        funext b
        simp only [res, Emb.add]
        rw [hnx]
        by_cases hb : b = (G m).nx
        · subst hb; rw [if_pos (by omega), if_pos rfl, h1]
        · by_cases hb2 : b < (G m).nx
          · rw [if_pos (by omega), if_neg hb, if_pos hb2]
          · rw [if_neg (by omega), if_neg hb, if_neg hb2]
      rw [hadd] at h3 ⊢
      rw [h2]
      refine ⟨Stp.adopt hB st h3 h4 h5 himgm, fun hp hy hd hmd' hl hi => ?_⟩
      obtain ⟨b, y, m', hb, hm', hcb⟩ := hi
      rw [H.get_push] at hb
      by_cases hbn : b = (G m).nx
      · subst hbn
        rw [Emb.add_same] at hm'; cases hm'
        exact inv.dis hc hx hD hmd (by omega) hy hd hmd' h1 hl (by omega) hcb
      · rw [if_neg hbn] at hb
        refine himg (by omega) hy hd hmd' hl ⟨b, y, m', hb, ?_, hcb⟩
        simpa [Emb.add, hbn] using hm'
    · have hst := can.still hx hk hmd
      rw [hst]
      exact ⟨st, fun hp => himg (by omega)⟩

/-! ### One operation more -/
theorem listed_set {listed : Array Bool} {i : Nat} (hi : i < listed.size) (j : Nat) : (listed.setIfInBounds i true).getD j false = true ↔ j = i ∨ listed.getD j false = true := by
  simp only [Array.getD_eq_getD_getElem?, Array.getElem?_setIfInBounds]
  by_cases h : i = j
  · subst h; simp [hi]
  · rw [if_neg h]
    constructor
    · exact .inr
    · rintro (h1 | h1)
      · exact absurd h1.symm h
      · exact h1

theorem put_get {a : Act} {d : Option Nat} {u : Value} (hd : dstOk nt d = true) (hs : a.tmps.size = nt) (d' : Nat) : (a.put d u).tmps.getD d' Go.undef = if d = some d' then u else a.tmps.getD d' Go.undef := by
  cases d with
  | none => simp [Act.put]
  | some d =>
    have hlt : d < nt := by simpa [dstOk] using hd
    simp only [Act.put, Array.getD_eq_getD_getElem?, Array.getElem?_setIfInBounds]
    by_cases h : d = d'
    · subst h; rw [if_pos rfl, if_pos (by omega)]; simp
    · rw [if_neg h]; simp [h]

/-- What is known of an operation whose turn may be now. -/
structure Turn (P : Program) (nt : Nat) (ops : Array Oper) (L : List (Nat × AOper)) (T : Nat → Tm) (G : Nat → H) (listed : Array Bool) (a : Act) (c : Nat) (ι : Emb) (i p : Nat) (x : AOper) (o : Oper) : Prop where
  hp : L[p]? = some (i, x)
  ho : ops[i]? = some o
  nd : ¬ listed.getD i false = true
  pre : Pre ops (fun j => listed.getD j false = true) i
  bit : ∀ j, ((befores ops).getD i 0).testBit j = true → listed.getD j false = true
  cp : c ≤ p
  lt : p < L.length
  lti : i < listed.size
  dst : dstOk nt x.dst = true
  dsto : x.dst = o.dst
  act : compAct P o = some x.op
  free : ∀ {q j : Nat} {y : AOper}, p < q → L[q]? = some (j, y) → listed.getD j false = true → ∀ d, x.dst = some d → y.dst ≠ some d
  sl : ∀ d ∈ looksOf ops o x, VR (res ι (G p).nx) ((T p).v d) (a.tmps.getD d Go.undef)
  want : Go.Region.wanted o (Go.yielded ops a.tmps) = x.wanted (T p)

theorem turn (can : Can P nt R ops L T G K vv) (inv : Inv P B nt ops L T G e0 h0 w0 ds listed a w c ι) {i : Nat} (hi : i ∈ Go.Region.ready .any ops listed) : ∃ p x o, Turn P nt ops L T G listed a c ι i p x o := by
  obtain ⟨hun, o, ho, hed⟩ := Go.mem_ready.1 hi
  have hisz : i < ops.size := (Array.getElem?_eq_some_iff.1 ho).1
  obtain ⟨p, x, hp⟩ := can.all i hisz
  have hlti : i < listed.size := by rw [inv.lsz]; exact hisz
  have hnd : ¬ listed.getD i false = true := by
    simp only [Array.getD_eq_getD_getElem?, Array.getElem?_eq_getElem hlti, Option.getD_some] at hun ⊢
    rw [hun]; simp
  have hpre : Pre ops (fun j => listed.getD j false = true) i := fun o' ho' e he hb => by
    rw [ho] at ho'; cases ho'; exact hed e he hb
  have hbit : ∀ j, ((befores ops).getD i 0).testBit j = true → listed.getD j false = true := fun j hb => befores_mem inv.clo hpre hb
  have hcp : c ≤ p := Nat.le_of_not_lt fun hlt => hnd (inv.cut hp hlt)
  have hlt : p < L.length := (List.getElem?_eq_some_iff.1 hp).1
  obtain ⟨k, hk⟩ := can.comp hp ho
  obtain ⟨hd1, hd2, hd3, _⟩ := compOper_parts hk
  have later : ∀ {q j : Nat} {y : AOper}, p < q → L[q]? = some (j, y) → listed.getD j false = true → ∀ o', ops[j]? = some o' → apartD ops o o' x y = true := fun {q j y} hpq hq hD o' ho' => by
    rcases can.ord.ap hq hpq hp ho' ho with h1 | h1
    · exact absurd (befores_mem inv.clo (inv.clo j hD) h1) hnd
    · exact h1
  have earlier : ∀ {q j : Nat} {y : AOper}, q < p → L[q]? = some (j, y) → ¬ listed.getD j false = true → ∀ o', ops[j]? = some o' → apartD ops o' o y x = true := fun {q j y} hpq hq hD o' ho' => by
    rcases can.ord.ap hp hpq hq ho ho' with h1 | h1
    · exact absurd (hbit _ h1) hD
    · exact h1
  have hsl : ∀ d ∈ looksOf ops o x, VR (res ι (G p).nx) ((T p).v d) (a.tmps.getD d Go.undef) := fun d hd => by
    obtain ⟨m, hm, h1, h2, h3⟩ := inv.slot d
    have hmp : m ≤ p := by
      rcases h1 with rfl | ⟨q, j, y, rfl, hq, hD, hy⟩
      · exact Nat.zero_le _
      · rcases Nat.lt_trichotomy q p with h4 | h4 | h4
        · exact h4
        · subst h4; rw [hp] at hq; cases hq; exact absurd hD hnd
        · obtain ⟨o', ho'⟩ := can.ord.ok hq
          have hap := later h4 hq hD o' ho'
          simp only [apartD, Bool.and_eq_true, Bool.not_eq_true'] at hap
          have := hap.1.2
          rw [hy] at this
          simp [dstIn] at this
          exact absurd hd this
    have hT : ∀ k, m ≤ k → k ≤ p → (T k).v d = (T m).v d := by
      intro k hk
      induction hk with
      | refl => intro _; rfl
      | @step k hk ih =>
        intro hkp
        have hkl : k < L.length := by omega
        obtain ⟨⟨j, y⟩, hq⟩ : ∃ q, L[k]? = some q := ⟨L[k], List.getElem?_eq_getElem hkl⟩
        rw [can.tt hq, ← ih (by omega)]
        have hne : y.dst ≠ some d := by
          by_cases hD : listed.getD j false = true
          · exact h2 hk hq hD
          · intro hy
            obtain ⟨o', ho'⟩ := can.ord.ok hq
            have hap := earlier (show k < p by omega) hq hD o' ho'
            simp only [apartD, Bool.and_eq_true, Bool.not_eq_true'] at hap
            have := hap.1.1
            rw [hy] at this
            simp [dstIn] at this
            exact this hd
        cases hyd : y.dst with
        | none => rfl
        | some d' =>
          simp only [Tm.pd, Tm.v_st]
          rw [if_neg (fun hh => hne (by rw [hyd, hh]))]
    rw [hT p hmp (Nat.le_refl _)]
    exact h3.mono (res_le (can.mono hmp (by omega)))
  refine ⟨p, x, o, hp, ho, hnd, hpre, hbit, hcp, hlt, hlti, by rw [hd2]; exact hd1, hd2, hd3, ?_, hsl, ?_⟩
  · intro q j y hpq hq hD d hxd hyd
    obtain ⟨o', ho'⟩ := can.ord.ok hq
    have hap := later hpq hq hD o' ho'
    simp only [apartD, Bool.and_eq_true, Bool.not_eq_true'] at hap
    have := hap.2
    rw [hxd, hyd] at this
    simp at this
  · refine wanted_at inv.tsz (fun d want hg => ⟨_, hsl d ?_⟩) hk
    simp [looksOf, hg]

section
variable {i p : Nat} {x : AOper} {o : Oper} {u : Value} {w' : World} {ι' : Emb}

theorem slots' (can : Can P nt R ops L T G K vv) (inv : Inv P B nt ops L T G e0 h0 w0 ds listed a w c ι) (tu : Turn P nt ops L T G listed a c ι i p x o) (hle : ι.le ι') (hv : VR (res ι' (G (p + 1)).nx) (vv p) u) :
    ∀ d, ∃ m, m ≤ L.length ∧ (m = 0 ∨ ∃ (p' i' : Nat) (x' : AOper), m = p' + 1 ∧ L[p']? = some (i', x') ∧ (listed.setIfInBounds i true).getD i' false = true ∧ x'.dst = some d) ∧
    (∀ {q j : Nat} {y : AOper}, m ≤ q → L[q]? = some (j, y) → (listed.setIfInBounds i true).getD j false = true → y.dst ≠ some d) ∧ VR (res ι' (G m).nx) ((T m).v d) ((a.put x.dst u).tmps.getD d Go.undef) := by
  intro d
  by_cases hd : x.dst = some d
  · refine ⟨p + 1, tu.lt, .inr ⟨p, i, x, rfl, tu.hp, (listed_set tu.lti _).2 (.inl rfl), hd⟩, fun hq hy hD => ?_, ?_⟩
    · rcases (listed_set tu.lti _).1 hD with rfl | hD
      · have := (can.uniq hy tu.hp).1; omega
      · exact tu.free (by omega) hy hD d hd
    · rw [put_get tu.dst inv.tsz, if_pos hd, can.tt tu.hp, hd]
      simp only [Tm.pd, Tm.v_st, if_true]
      exact hv
  · obtain ⟨m, h1, h2, h3, h4⟩ := inv.slot d
    refine ⟨m, h1, ?_, fun hq hy hD => ?_, ?_⟩
    · rcases h2 with h2 | ⟨q, j, y, h5, h6, h7, h8⟩
      · exact .inl h2
      · exact .inr ⟨q, j, y, h5, h6, (listed_set tu.lti _).2 (.inr h7), h8⟩
    · rcases (listed_set tu.lti _).1 hD with rfl | hD
      · rw [(can.uniq hy tu.hp).2]; exact hd
      · exact h3 hq hy hD
    · rw [put_get tu.dst inv.tsz, if_neg hd]
      exact h4.mono (res_mono hle _)

theorem clo' (inv : Inv P B nt ops L T G e0 h0 w0 ds listed a w c ι) (tu : Turn P nt ops L T G listed a c ι i p x o) : ∀ j, (listed.setIfInBounds i true).getD j false = true → Pre ops (fun j => (listed.setIfInBounds i true).getD j false = true) j := by
  intro j hj o' ho' e he hb
  refine (listed_set tu.lti _).2 (.inr ?_)
  rcases (listed_set tu.lti _).1 hj with rfl | hj
  · exact tu.pre o' ho' e he hb
  · exact inv.clo j hj o' ho' e he hb

theorem put_size {a : Act} {d : Option Nat} {u : Value} : (a.put d u).tmps.size = a.tmps.size := by cases d <;> simp [Act.put]

/-- No effect: the cut stays. -/
theorem inv_same (can : Can P nt R ops L T G K vv) (inv : Inv P B nt ops L T G e0 h0 w0 ds listed a w c ι) (tu : Turn P nt ops L T G listed a c ι i p x o) (hk : x.op.kind ≠ .eff) (hle : ι.le ι')
    (hres : res ι' (G c).nx = res ι (G c).nx) (hold : ∀ b, b < w.heap.size → w'.heap[b]? = w.heap[b]?) (hg : w.heap.size ≤ w'.heap.size) (hsky : Sky w w')
    (hdom : ∀ b l, ι' b = some l → ι b = some l ∨ (Made T p x ∧ b = (G p).nx))
    (hpend : Made T p x → ∃ l blk, ι' (G p).nx = some l ∧ G (p + 1) = (G p).push blk ∧ BlkR (CC P) (res ι' (G (p + 1)).nx) blk l w' ∧ l.cb = w.heap.size ∧ l.cb < w'.heap.size)
    (hv : VR (res ι' (G (p + 1)).nx) (vv p) u) : Inv P B nt ops L T G e0 h0 w0 ds (listed.setIfInBounds i true) (a.put x.dst u) w' c ι' := by
  have hD : ∀ {q j : Nat} {y : AOper}, L[q]? = some (j, y) → (listed.setIfInBounds i true).getD j false = true → (q = p ∧ j = i ∧ y = x) ∨ listed.getD j false = true := fun hq hd => by
    rcases (listed_set tu.lti _).1 hd with rfl | hd
    · exact .inl ⟨(can.uniq hq tu.hp).1, rfl, (can.uniq hq tu.hp).2⟩
    · exact .inr hd
  have hsz := inv.stp.grow
  refine ⟨by simp [inv.lsz], clo' inv tu, inv.cle, fun hq hc => (listed_set tu.lti _).2 (.inr (inv.cut hq hc)), fun hq he hd => ?_, inv.cin, ?_, fun {b l} hb => ?_, fun {q j y} hc hq hd hm => ?_, fun {q j y q' j' y' l l'} hc hq hd hm hc' hq' hd' hm' hl hl' hne => ?_, slots' can inv tu hle hv, by rw [put_size]; exact inv.tsz, by rw [put_defers]; exact inv.dfr⟩
  · rcases hD hq hd with ⟨rfl, rfl, rfl⟩ | hd
    · exact absurd he hk
    · exact inv.eff hq he hd
  · rw [hres]; exact inv.stp.trans (Stp.more inv.stp.sim hold hg hsky)
  · rcases hdom b l hb with h1 | ⟨h1, h2⟩
    · rcases inv.dom h1 with h2 | ⟨q, j, y, h3, h4, h5, h6⟩
      · exact .inl h2
      · exact .inr ⟨q, j, y, h3, h4, (listed_set tu.lti _).2 (.inr h5), h6⟩
    · exact .inr ⟨p, i, x, tu.cp, tu.hp, (listed_set tu.lti _).2 (.inl rfl), h1, h2⟩
  · rw [hres]
    rcases hD hq hd with ⟨rfl, rfl, rfl⟩ | hd
    · obtain ⟨l, blk, h1, h2, h3, h4, h5⟩ := hpend hm
      refine ⟨l, blk, h1, h2, h3, by omega, h5, fun hi => ?_⟩
      obtain ⟨b, z, m, hb, hm', hcb⟩ := hi
      obtain ⟨m2, hm2, _, hlt, _⟩ := inv.stp.sim.blk b z hb
      rw [hm'] at hm2; cases hm2
      omega
    · obtain ⟨l, blk, h1, h2, h3, h4, h5, h6⟩ := inv.pend hc hq hd hm
      exact ⟨l, blk, hle _ _ h1, h2, (h3.of_heap (hold _ h5)).mono (res_mono hle _), h4, by omega, h6⟩
  · have pold : ∀ {q j : Nat} {y : AOper} {l : Loc}, c ≤ q → L[q]? = some (j, y) → listed.getD j false = true → Made T q y → ι' (G q).nx = some l → ι (G q).nx = some l ∧ l.cb < w.heap.size := fun hc hq hd hm hl => by
      obtain ⟨l2, _, h1, _, _, _, h5, _⟩ := inv.pend hc hq hd hm
      have := hle _ _ h1
      rw [hl] at this; cases this
      exact ⟨h1, h5⟩
    rcases hD hq hd with ⟨rfl, rfl, rfl⟩ | hd0 <;> rcases hD hq' hd' with ⟨rfl, rfl, rfl⟩ | hd0'
    · exact absurd rfl hne
    · obtain ⟨l2, _, h1, _, _, h4, _⟩ := hpend hm
      rw [hl] at h1; cases h1
      have := (pold hc' hq' hd0' hm' hl').2
      omega
    · obtain ⟨l2, _, h1, _, _, h4, _⟩ := hpend hm'
      rw [hl'] at h1; cases h1
      have := (pold hc hq hd0 hm hl).2
      omega
    · exact inv.dis hc hq hd0 hm hc' hq' hd0' hm' (pold hc hq hd0 hm hl).1 (pold hc' hq' hd0' hm' hl').1 hne

/-- An effect: all that is ahead has been done; the cut is behind it. -/
theorem inv_cut (can : Can P nt R ops L T G K vv) (hB : B ≤ w0.heap.size) (inv : Inv P B nt ops L T G e0 h0 w0 ds listed a w c ι) (tu : Turn P nt ops L T G listed a c ι i p x o) (hk : x.op.kind = .eff) {e' : Emb}
    (st : Stp (CC P) B (res ι (G p).nx) (G p) w e' (G (p + 1)) w') (hv : VR e' (vv p) u) : ∃ ι', Inv P B nt ops L T G e0 h0 w0 ds (listed.setIfInBounds i true) (a.put x.dst u) w' (p + 1) ι' := by
  have hall : ∀ {q j : Nat} {y : AOper}, q < p → L[q]? = some (j, y) → listed.getD j false = true := fun hq hy => tu.bit _ (can.ord.eff tu.hp hk hq hy)
  obtain ⟨sta, himg⟩ := adopt_all can hB inv tu.cp (by have := tu.lt; omega) hall
  have hlt := tu.lt
  have hm1 := can.mono1 tu.hp
  have hle1 : ∀ {b : Nat} {l : Loc}, ι b = some l → b < (G p).nx ∨ ∃ (q j : Nat) (y : AOper), p + 1 ≤ q ∧ L[q]? = some (j, y) ∧ listed.getD j false = true ∧ Made T q y ∧ b = (G q).nx := fun {b l} hb => by
    rcases inv.dom hb with h1 | ⟨q, j, y, h1, h2, h3, h4, h5⟩
    · exact .inl (Nat.lt_of_lt_of_le h1 (can.mono tu.cp (by omega)))
    · rcases Nat.lt_trichotomy q p with h6 | h6 | h6
      · have h7 := can.madeNx h2 h4
        have h8 := can.mono (p := q + 1) (q := p) h6 (by omega)
        exact .inl (by omega)
      · subst h6
        rw [tu.hp] at h2; cases h2
        exact absurd h4.1 (by rw [hk]; decide)
      · exact .inr ⟨q, j, y, h6, h2, h3, h4, h5⟩
  let ι' : Emb := fun b => if b < (G (p + 1)).nx then e' b else ι b
  have hres : res ι' (G (p + 1)).nx = e' := by
    funext b
    show (if b < (G (p + 1)).nx then (if b < (G (p + 1)).nx then e' b else ι b) else none) = e' b
    split
    · rfl
    · rename_i hb
      cases he : e' b with
      | none => rfl
      | some l => exact absurd (st.sim.dom _ _ he) hb
  have hbig : ∀ b, (G (p + 1)).nx ≤ b → ι' b = ι b := fun b hb => by
    show (if b < (G (p + 1)).nx then e' b else ι b) = ι b
    rw [if_neg (by omega)]
  have hle : ι.le ι' := fun b l hb => by
    rcases hle1 hb with h1 | ⟨q, j, y, h1, h2, h3, h4, h5⟩
    · have : e' b = some l := st.le _ _ (by unfold res; rw [if_pos h1]; exact hb)
      show (if b < (G (p + 1)).nx then e' b else ι b) = some l
      rw [if_pos (by omega)]; exact this
    · rw [hbig b (by rw [h5]; exact can.mono h1 (by have := (List.getElem?_eq_some_iff.1 h2).1; omega))]
      exact hb
  have hpq : ∀ {q j : Nat} {y : AOper}, p + 1 ≤ q → L[q]? = some (j, y) → (listed.setIfInBounds i true).getD j false = true → listed.getD j false = true ∧ ι' (G q).nx = ι (G q).nx := fun {q j y} hq hy hd => by
    refine ⟨?_, hbig _ (can.mono hq (by have := (List.getElem?_eq_some_iff.1 hy).1; omega))⟩
    rcases (listed_set tu.lti _).1 hd with rfl | hd
    · have := (can.uniq hy tu.hp).1; omega
    · exact hd
  refine ⟨ι', by simp [inv.lsz], clo' inv tu, hlt, fun {q j y} hq hc => ?_, fun {q j y} hq he hd => ?_, .inr ⟨p, i, x, rfl, tu.hp, hk⟩, ?_, fun {b l} hb => ?_, fun {q j y} hc hq hd hm => ?_, fun {q j y q' j' y' l l'} hc hq hd hm hc' hq' hd' hm' hl hl' hne => ?_, slots' can inv tu hle (by rw [hres]; exact hv), by rw [put_size]; exact inv.tsz, by rw [put_defers]; exact inv.dfr⟩
  · refine (listed_set tu.lti _).2 ?_
    by_cases h1 : q < p
    · exact .inr (hall h1 hq)
    · have : q = p := by omega
      subst this
      rw [tu.hp] at hq; cases hq
      exact .inl rfl
  · rcases (listed_set tu.lti _).1 hd with rfl | hd
    · have := (can.uniq hq tu.hp).1; omega
    · have := inv.eff hq he hd; have := tu.cp; omega
  · rw [hres]; exact sta.trans st
  · by_cases hbl : b < (G (p + 1)).nx
    · exact .inl hbl
    · rw [hbig b (by omega)] at hb
      rcases hle1 hb with h1 | ⟨q, j, y, h1, h2, h3, h4, h5⟩
      · omega
      · exact .inr ⟨q, j, y, h1, h2, (listed_set tu.lti _).2 (.inr h3), h4, h5⟩
  · obtain ⟨hd0, hi0⟩ := hpq hc hq hd
    obtain ⟨l, blk, h1, h2, h3, h4, h5, h6⟩ := inv.pend (by have := tu.cp; omega) hq hd0 hm
    have himgq := himg (by omega) hq hd0 hm h1
    rw [hres]
    refine ⟨l, blk, by rw [hi0]; exact h1, h2, (h3.of_heap (st.keep _ h5 fun ho => himgq ho.img)).mono (res_mono hle _), h4, Nat.lt_of_lt_of_le h5 st.grow, fun hi => ?_⟩
    rcases st.img _ hi with h7 | h7
    · omega
    · exact himgq h7
  · obtain ⟨hd0, hi0⟩ := hpq hc hq hd
    obtain ⟨hd0', hi0'⟩ := hpq hc' hq' hd'
    rw [hi0] at hl; rw [hi0'] at hl'
    exact inv.dis (by have := tu.cp; omega) hq hd0 hm (by have := tu.cp; omega) hq' hd0' hm' hl hl' hne
end

end Am
