/- AmDraw2: the order that stands for all: what the check says, place by place; the run along it. -/
import Derived.Test.YtibmhhdgcbaofaaDoorAmDraw1
namespace Am
set_option linter.unusedVariables false
set_option linter.unusedSimpArgs false
open Go (IntKind BinOp UnOp Value Program TypeId TypeDesc Operand Oper Code Tmp World Addr Obj Act Fence)

/-! ### The run along the order -/
structure Trc (R : RunT) (as : List AOper) (t : Tm) (h : H) (hs : List H) (t' : Tm) (h' : H) (T : Nat → Tm) (G : Nat → H) (K : Nat → List H) (vv : Nat → V) : Prop where
  t0 : T 0 = t
  g0 : G 0 = h
  k0 : K 0 = hs
  st : ∀ p x, as[p]? = some x → stepD R x (T p) (G p) (K p) = some (vv p, G (p + 1))
  tt : ∀ p x, as[p]? = some x → T (p + 1) = (T p).pd x.dst (vv p)
  kk : ∀ p x, as[p]? = some x → K (p + 1) = behind x.op (G (p + 1)) (K p)
  te : T as.length = t'
  ge : G as.length = h'

theorem trace {R : RunT} : ∀ {as : List AOper} {t : Tm} {h : H} {hs : List H} {t' : Tm} {h' : H}, evOpsD R as t h hs = some (t', h') → ∃ T G K vv, Trc R as t h hs t' h' T G K vv
  | [], t, h, hs, t', h', hev => by
    simp [evOpsD] at hev
    obtain ⟨rfl, rfl⟩ := hev
    exact ⟨fun _ => t, fun _ => h, fun _ => hs, fun _ => .un, rfl, rfl, rfl, by simp, by simp, by simp, rfl, rfl⟩
  | x :: xs, t, h, hs, t', h', hev => by
    unfold evOpsD at hev
    obtain ⟨⟨v, h1⟩, hst, hev⟩ := Option.bind_eq_some_iff.1 hev
    obtain ⟨T, G, K, vv, htr⟩ := trace hev
    refine ⟨fun p => match p with | 0 => t | p + 1 => T p, fun p => match p with | 0 => h | p + 1 => G p, fun p => match p with | 0 => hs | p + 1 => K p, fun p => match p with | 0 => v | p + 1 => vv p, rfl, rfl, rfl, ?_, ?_, ?_, htr.te, htr.ge⟩
    · intro p y hy
      cases p with
      | zero => simp at hy; subst hy; simp only [htr.g0]; exact hst
      | succ p => exact htr.st p y (by simpa using hy)
    · intro p y hy
      cases p with
      | zero => simp at hy; subst hy; exact htr.t0
      | succ p => exact htr.tt p y (by simpa using hy)
    · intro p y hy
      cases p with
      | zero => simp at hy; subst hy; simp only [htr.k0, htr.g0]
      | succ p => exact htr.kk p y (by simpa using hy)

/-! ### The order -/
/-- The places of the effects ahead, the last one first. -/
def epos (L : List (Nat × AOper)) : Nat → List Nat
  | 0 => []
  | p + 1 => match L[p]? with
    | some q => if q.2.op.kind == .eff then p :: epos L p else epos L p
    | none => epos L p
def idx (L : List (Nat × AOper)) (p : Nat) : Nat := ((L[p]?).map (·.1)).getD 0

theorem chk_at {ops : Array Oper} {bs : List Nat} {L : List (Nat × AOper)} (h : chk ops bs [] [] L = true) : ∀ p, p ≤ L.length → chk ops bs (L.take p).reverse ((epos L p).map (idx L)) (L.drop p) = true
  | 0, _ => by simpa [epos] using h
  | p + 1, hp => by
    have ih := chk_at h p (by omega)
    have hlt : p < L.length := by omega
    rw [List.drop_eq_getElem_cons hlt] at ih
    generalize hq : L[p] = q at ih
    obtain ⟨i, x⟩ := q
    have hq' : L[p]? = some (i, x) := by rw [List.getElem?_eq_getElem hlt, hq]
    unfold chk at ih
    have ih := (Bool.and_eq_true_iff.1 ih).2
    have e1 : (L.take (p + 1)).reverse = (i, x) :: (L.take p).reverse := by rw [List.take_succ_eq_append_getElem hlt, hq]; simp
    rw [e1]
    have e2 : (epos L (p + 1)).map (idx L) = if x.op.kind == .eff then i :: (epos L p).map (idx L) else (epos L p).map (idx L) := by
      simp only [epos, hq']
      split
      · simp [idx, hq']
      · rfl
    rw [e2]
    exact ih

theorem mem_ahead {L : List (Nat × AOper)} {p : Nat} {q : Nat × AOper} : q ∈ (L.take p).reverse ↔ ∃ k, k < p ∧ L[k]? = some q := by
  rw [List.mem_reverse, List.mem_iff_getElem?]
  constructor
  · rintro ⟨k, hk⟩
    rw [List.getElem?_take] at hk
    split at hk
    · exact ⟨k, ‹_›, hk⟩
    · cases hk
  · rintro ⟨k, hk, hq⟩
    exact ⟨k, by rw [List.getElem?_take, if_pos hk]; exact hq⟩

structure OrdOk (ops : Array Oper) (bs : List Nat) (L : List (Nat × AOper)) : Prop where
  ok : ∀ {p i : Nat} {x : AOper}, L[p]? = some (i, x) → ∃ o, ops[i]? = some o
  new : ∀ {p i : Nat} {x : AOper} {q j : Nat} {y : AOper}, L[p]? = some (i, x) → L[q]? = some (j, y) → q < p → i ≠ j
  pre : ∀ {p i : Nat} {x : AOper} {j : Nat}, L[p]? = some (i, x) → (bs.getD i 0).testBit j = true → ∃ q y, q < p ∧ L[q]? = some (j, y)
  eff : ∀ {p i : Nat} {x : AOper} {q j : Nat} {y : AOper}, L[p]? = some (i, x) → x.op.kind = .eff → q < p → L[q]? = some (j, y) → (bs.getD i 0).testBit j = true
  ap : ∀ {p i : Nat} {x : AOper} {q j : Nat} {y : AOper} {o o' : Oper}, L[p]? = some (i, x) → q < p → L[q]? = some (j, y) → ops[i]? = some o → ops[j]? = some o' → (bs.getD i 0).testBit j = true ∨ apartD ops o' o y x = true
  look : ∀ {p i : Nat} {x : AOper} {q : Nat}, L[p]? = some (i, x) → (epos L p)[x.look]? = some q → (bs.getD i 0).testBit (idx L q) = true

theorem ordOk {ops : Array Oper} {bs : List Nat} {L : List (Nat × AOper)} (h : chk ops bs [] [] L = true) : OrdOk ops bs L := by
  have key : ∀ {p i : Nat} {x : AOper}, L[p]? = some (i, x) → ∃ o, ops[i]? = some o ∧ ((L.take p).reverse.map (·.1)).contains i = false ∧ bs.getD i 0 < 2 ^ ops.size ∧
      (∀ j, j < ops.size → (bs.getD i 0).testBit j = true → j ∈ (L.take p).reverse.map (·.1)) ∧
      (∀ q ∈ (L.take p).reverse, (bs.getD i 0).testBit q.1 = true ∨ (x.op.kind ≠ .eff ∧ ∃ o', ops[q.1]? = some o' ∧ apartD ops o' o q.2 x = true)) ∧
      (∀ e, ((epos L p).map (idx L))[x.look]? = some e → (bs.getD i 0).testBit e = true) := by
    intro p i x hp
    have hlt : p < L.length := (List.getElem?_eq_some_iff.1 hp).1
    have h1 := chk_at h p (by omega)
    rw [List.drop_eq_getElem_cons hlt, (List.getElem?_eq_some_iff.1 hp).2] at h1
    unfold chk at h1
    have h1 := (Bool.and_eq_true_iff.1 h1).1
    simp only at h1
    split at h1
    · rename_i o ho
      simp only [Bool.and_eq_true, List.all_eq_true, List.mem_range, decide_eq_true_eq] at h1
      obtain ⟨⟨⟨⟨h2, h3⟩, h4⟩, h5⟩, h6⟩ := h1
      refine ⟨o, ho, by simpa using h2, h3, fun j hj hb => ?_, fun q hq => ?_, fun e he => ?_⟩
      · have := h4 j hj
        rw [hb] at this
        simpa using this
      · have := h5 q hq
        rcases Bool.or_eq_true_iff.1 this with h7 | h7
        · exact .inl h7
        · refine .inr ?_
          obtain ⟨h8, h9⟩ := Bool.and_eq_true_iff.1 h7
          refine ⟨by simpa using h8, ?_⟩
          split at h9
          · exact ⟨_, ‹_›, h9⟩
          · cases h9
      · rw [he] at h6; exact h6
    · cases h1
  refine ⟨fun hp => let ⟨o, ho, _⟩ := key hp; ⟨o, ho⟩, fun hp hq hlt heq => ?_, fun {_ _ _ j} hp hb => ?_, fun hp hk hlt hq => ?_, fun hp hlt hq ho ho' => ?_, fun hp hq => ?_⟩
  · obtain ⟨o, ho, h1, _⟩ := key hp
    have hm := mem_ahead.2 ⟨_, hlt, hq⟩
    have : _ ∈ (L.take _).reverse.map (·.1) := List.mem_map_of_mem (f := (·.1)) hm
    rw [heq] at h1
    simp only [List.contains_eq_mem, decide_eq_false_iff_not] at h1
    exact h1 this
  · obtain ⟨o, ho, h1, h2, h3, _⟩ := key hp
    have hj : j < ops.size := by
      refine Decidable.byContradiction fun hn => ?_
      rw [Nat.testBit_lt_two_pow (Nat.lt_of_lt_of_le h2 (Nat.pow_le_pow_right (by omega) (Nat.le_of_not_lt hn)))] at hb
      cases hb
    obtain ⟨q, hq, hqe⟩ := List.mem_map.1 (h3 _ hj hb)
    obtain ⟨k, hk, hk2⟩ := mem_ahead.1 hq
    obtain ⟨j', y⟩ := q
    simp at hqe; subst hqe
    exact ⟨k, y, hk, hk2⟩
  · obtain ⟨o, ho, h1, h2, h3, h4, _⟩ := key hp
    rcases h4 _ (mem_ahead.2 ⟨_, hlt, hq⟩) with h5 | ⟨h5, _⟩
    · exact h5
    · exact absurd hk h5
  · obtain ⟨o2, ho2, h1, h2, h3, h4, _⟩ := key hp
    rw [ho] at ho2; cases ho2
    rcases h4 _ (mem_ahead.2 ⟨_, hlt, hq⟩) with h5 | ⟨_, o3, h6, h7⟩
    · exact .inl h5
    · rw [ho'] at h6; cases h6; exact .inr h7
  · obtain ⟨o, ho, h1, h2, h3, h4, h5⟩ := key hp
    exact h5 _ (by rw [List.getElem?_map, hq]; rfl)

/-! ### What has been done is closed -/
def Pre (ops : Array Oper) (D : Nat → Prop) (i : Nat) : Prop := ∀ o, ops[i]? = some o → ∀ e ∈ o.after, Go.Region.binds .any e = true → D e.on

theorem bits_mem {D : Nat → Prop} {acc : List Nat} (hacc : ∀ i j, D i → (acc.getD i 0).testBit j = true → D j) : ∀ {es : List Go.Edge}, (∀ e ∈ es, Go.Region.binds .any e = true → D e.on) → ∀ j, (bits acc es).testBit j = true → D j
  | [], _, j, hb => by simp [bits] at hb
  | e :: es, he, j, hb => by
    unfold bits at hb
    split at hb
    · rename_i hbi
      simp only [Nat.testBit_or, Bool.or_eq_true, Nat.testBit_two_pow, decide_eq_true_eq] at hb
      have hon := he e (by simp) hbi
      rcases hb with (rfl | h2) | h2
      · exact hon
      · exact hacc _ _ hon h2
      · exact bits_mem hacc (fun e' h' => he e' (List.mem_cons_of_mem _ h')) j h2
    · exact bits_mem hacc (fun e' h' => he e' (List.mem_cons_of_mem _ h')) j hb

theorem bef_mem {ops : Array Oper} {D : Nat → Prop} (hD : ∀ i, D i → Pre ops D i) : ∀ {os : List Oper} {acc : List Nat}, ops.toList.drop acc.length = os → (∀ i j, Pre ops D i → (acc.getD i 0).testBit j = true → D j) →
    ∀ i j, Pre ops D i → ((bef os acc).getD i 0).testBit j = true → D j
  | [], acc, _, hacc, i, j, hp, hb => hacc i j hp hb
  | o :: os, acc, hos, hacc, i, j, hp, hb => by
    unfold bef at hb
    have ho : ops[acc.length]? = some o := by
      have := congrArg (fun l => l[0]?) hos
      simpa using this
    refine bef_mem hD (os := os) (acc := acc ++ [bits acc o.after.toList]) ?_ ?_ i j hp hb
    · have := congrArg (List.drop 1) hos
      simpa [List.drop_drop] using this
    · intro i j hp hb
      rw [List.getD_eq_getElem?_getD, List.getElem?_append] at hb
      split at hb
      · exact hacc i j hp (by rw [List.getD_eq_getElem?_getD]; exact hb)
      · by_cases hi : i = acc.length
        · subst hi
          simp at hb
          exact bits_mem (fun i j hi hb => hacc i j (hD i hi) hb) (fun e he hbi => hp o ho e (by simpa using he) hbi) j hb
        · rw [List.getElem?_eq_none (by simp; omega)] at hb
          simp at hb

theorem befores_mem {ops : Array Oper} {D : Nat → Prop} (hD : ∀ i, D i → Pre ops D i) {i j : Nat} (hp : Pre ops D i) (hb : ((befores ops).getD i 0).testBit j = true) : D j :=
  bef_mem hD (os := ops.toList) (acc := []) (by simp) (by simp) i j hp hb

theorem bits_edge {acc : List Nat} : ∀ {es : List Go.Edge} {e : Go.Edge}, e ∈ es → Go.Region.binds .any e = true → (bits acc es).testBit e.on = true
  | [], _, h, _ => by simp at h
  | e' :: es, e, h, hb => by
    unfold bits
    rcases List.mem_cons.1 h with rfl | h
    · rw [if_pos hb]; simp [Nat.testBit_or]
    · split
      · simp [Nat.testBit_or, bits_edge h hb]
      · exact bits_edge h hb

theorem bef_edge {ops : Array Oper} : ∀ {os : List Oper} {acc : List Nat}, ops.toList.drop acc.length = os → (∀ i o e, i < acc.length → ops[i]? = some o → e ∈ o.after → Go.Region.binds .any e = true → (acc.getD i 0).testBit e.on = true) →
    ∀ i o e, ops[i]? = some o → e ∈ o.after → Go.Region.binds .any e = true → ((bef os acc).getD i 0).testBit e.on = true
  | [], acc, hos, hacc, i, o, e, ho, he, hb => by
    have hlen : ops.size ≤ acc.length := by simpa using hos
    have : i < ops.size := (Array.getElem?_eq_some_iff.1 ho).1
    exact hacc i o e (by omega) ho he hb
  | o' :: os, acc, hos, hacc, i, o, e, ho, he, hb => by
    unfold bef
    have ho' : ops[acc.length]? = some o' := by
      have := congrArg (fun l => l[0]?) hos
      simpa using this
    refine bef_edge (os := os) (acc := acc ++ [bits acc o'.after.toList]) ?_ ?_ i o e ho he hb
    · have := congrArg (List.drop 1) hos
      simpa [List.drop_drop] using this
    · intro i o e hi ho he hb
      rw [List.getD_eq_getElem?_getD, List.getElem?_append]
      split
      · rename_i hlt
        have := hacc i o e hlt ho he hb
        rwa [List.getD_eq_getElem?_getD] at this
      · have hie : i = acc.length := by simp at hi; omega
        subst hie
        rw [ho'] at ho; cases ho
        simp
        exact bits_edge (by simpa using he) hb

theorem befores_edge {ops : Array Oper} {i : Nat} {o : Oper} {e : Go.Edge} (ho : ops[i]? = some o) (he : e ∈ o.after) (hb : Go.Region.binds .any e = true) : ((befores ops).getD i 0).testBit e.on = true :=
  bef_edge (os := ops.toList) (acc := []) (by simp) (by simp) i o e ho he hb

end Am
