/- What strings.ContainsAny answers, of the three bytes that a value may not hold: the set, the two ways. -/
import Derived.Test.YtibmhhdgcbaofaaDoorField3
namespace Am
set_option linter.unusedVariables false
set_option linter.unusedSimpArgs false
set_option maxRecDepth 20000
set_option maxHeartbeats 8000000
variable {pr : Prog}

def gUse (as : List V) (h : H) : Option (V × H) :=
  match as with
  | [.i .i64 n] => some (.b (decide (8 < n)), h)
  | _ => none
theorem use_ok : OkF pr c_strings_shouldUseASCIISet gUse := by
  intro as h v h' hg
  unfold gUse at hg
  split at hg
  · cases hg
    unfold wpF c_strings_shouldUseASCIISet
    refine ⟨by simp, ?_⟩
    simp only [↓STEP, go_sem, ↓reduceIte, Nat.reduceEqDiff, Nat.reduceLeDiff, Nat.reduceLT, Nat.reduceAdd, Nat.reduceSub, Nat.reduceMul, Int.reduceLT, Int.reduceLE, Int.reduceEq, Int.reduceAdd, Int.reduceSub, Int.reduceMul, Int.reduceNeg, Int.reduceToNat, reduceCtorEq]
    exact Abs.refl
  · cases hg

/-- The set of the three bytes. -/
def bits3 : List V := (List.range 256).map fun i => .b (decide (i = 0) || decide (i = 10) || decide (i = 13))
theorem bits3_len : bits3.length = 256 := by simp [bits3]
theorem bits3_flat : bits3.all V.flat = true := by simp [bits3, V.flat]
theorem bits3_get (c : UInt8) : bits3[c.toNat]? = some (.b (bad3 c)) := by
  have := c.toNat_lt
  unfold bits3 bad3
  rw [List.getElem?_map, List.getElem?_range (by omega)]
  have e : ∀ k : Nat, decide (c.toNat = k) = decide ((c.toNat : Int) = (k : Int)) := fun k => by simp [Int.ofNat_inj]
  simp only [Option.map_some, e]
  rfl
def gContains (as : List V) (h : H) : Option (V × H) :=
  match as with
  | [.p (some (b, 0, 0)), .i .u8 n] =>
    match h.get b with
    | some (.rows 256 [row] _) => if row.length = 256 ∧ 0 ≤ n ∧ n < 256 then (row[n.toNat]?).bind fun v => match v with
        | .b x => some (.b x, h)
        | _ => none
      else none
    | _ => none
  | _ => none
theorem contains_ok : OkF pr c_strings_asciiSet_contains gContains := by
  intro as h v h' hg
  unfold gContains at hg
  split at hg
  · rename_i b n
    split at hg
    · rename_i row ro hb
      split at hg
      · rename_i hr
        obtain ⟨u, hu, hg⟩ := Option.bind_eq_some_iff.1 hg
        split at hg
        · rename_i x
          cases hg
          unfold wpF c_strings_asciiSet_contains
          refine ⟨by simp, ?_⟩
          have h1 : (0 : Int) ≤ n := hr.2.1
          have h2 : n < (256 : Int) := hr.2.2
          have h3 : n.toNat + 1 ≤ row.length := by omega
          have h4 : (row.drop n.toNat).take 1 = [.b x] := by
            obtain ⟨hlt, he⟩ := List.getElem?_eq_some_iff.1 hu
            rw [List.drop_eq_getElem_cons hlt, he]; rfl
          have h2' : n < ((256 : Nat) : Int) := h2
          simp only [↓STEP, go_sem, ↓reduceIte, Nat.reduceEqDiff, Nat.reduceLeDiff, Nat.reduceLT, Nat.reduceAdd, Nat.reduceSub, Nat.reduceMul, Int.reduceLT, Int.reduceLE, Int.reduceEq, Int.reduceAdd, Int.reduceSub, Int.reduceMul, Int.reduceNeg, Int.reduceToNat, reduceCtorEq, hb, h1, h2, h2', h3, h4, Nat.mul_one]
          exact Abs.refl
        · cases hg
      · cases hg
    · cases hg
  · cases hg
theorem gContains_eq (b : Nat) (c : UInt8) (h : H) (ro : Bool) (hb : h.get b = some (.rows 256 [bits3] ro)) : gContains [.p (some (b, 0, 0)), .i .u8 (c.toNat : Int)] h = some (.b (bad3 c), h) := by
  have := c.toNat_lt
  simp only [gContains, hb]
  rw [if_pos ⟨bits3_len, Int.natCast_nonneg _, by omega⟩]
  simp only [Int.toNat_natCast, bits3_get, Option.bind_some]

/-- The set, made. -/
def gMake (as : List V) (h : H) : Option (V × H) :=
  match as with
  | [.s cs] => if cs = [0, 10, 13] then some (.tup [.agg bits3, .b true], h) else none
  | _ => none

def anyAns (l : List UInt8) : Int :=
  match l.findIdx? bad3 with
  | some i => i
  | none => -1
theorem anyAns_nonneg (l : List UInt8) : decide (0 ≤ anyAns l) = l.any bad3 := by
  unfold anyAns
  cases h : l.findIdx? bad3 with
  | none =>
    rw [List.findIdx?_eq_none_iff] at h
    rw [List.any_eq_false.2 (fun x hx => by simp [h x hx])]; rfl
  | some i =>
    obtain ⟨hi, hb, _⟩ := List.findIdx?_eq_some_iff_getElem.1 h
    rw [List.any_eq_true.2 ⟨l[i], List.getElem_mem hi, hb⟩]; simp
theorem anyAns_at {l : List UInt8} {i : Nat} (hi : i < l.length) (hb : bad3 l[i] = true) (hno : ∀ j (hj : j < i), bad3 (l[j]'(by omega)) = false) : anyAns l = i := by
  unfold anyAns
  have : l.findIdx? bad3 = some i := List.findIdx?_eq_some_iff_getElem.2 ⟨hi, hb, fun j hj => by simp [hno j hj]⟩
  rw [this]
theorem anyAns_none {l : List UInt8} (hno : ∀ j (hj : j < l.length), bad3 l[j] = false) : anyAns l = -1 := by
  unfold anyAns
  have : l.findIdx? bad3 = none := by
    rw [List.findIdx?_eq_none_iff]
    intro x hx
    obtain ⟨j, hj, rfl⟩ := List.getElem_of_mem hx
    exact hno j hj
  rw [this]
theorem get_list (l : List UInt8) (j : Nat) (hj : j < l.length) : (⟨l.toArray⟩ : ByteArray).get! j = l[j] := by
  show (l.toArray)[j]! = l[j]
  simp [hj]
theorem decode_spec (l : List UInt8) (i : Nat) (hi : i < l.length) : 1 ≤ (Go.Utf8.decode ⟨l.toArray⟩ i).2 ∧ i + (Go.Utf8.decode ⟨l.toArray⟩ i).2 ≤ l.length ∧ (Go.Utf8.decode ⟨l.toArray⟩ i).1 ≤ 1114111 ∧
    (l[i].toNat < 128 → Go.Utf8.decode ⟨l.toArray⟩ i = (l[i].toNat, 1)) ∧
    (128 ≤ l[i].toNat → 128 ≤ (Go.Utf8.decode ⟨l.toArray⟩ i).1 ∧ ∀ j (hj : j < l.length), i ≤ j → j < i + (Go.Utf8.decode ⟨l.toArray⟩ i).2 → 128 ≤ l[j].toNat) := by
  have hsz : (⟨l.toArray⟩ : ByteArray).size = l.length := by show l.toArray.size = _; simp
  have g0 : (⟨l.toArray⟩ : ByteArray).get! (i + 0) = l[i] := get_list l i hi
  have cont : ∀ k, decide (i + k < l.length) = true ∧ (((⟨l.toArray⟩ : ByteArray).get! (i + k)).toNat / 64 == 2) = true → ∃ hk : i + k < l.length, 128 ≤ l[i + k].toNat ∧ l[i + k].toNat < 192 ∧ (⟨l.toArray⟩ : ByteArray).get! (i + k) = l[i + k] := by
    intro k hk
    simp only [decide_eq_true_eq, beq_iff_eq] at hk
    obtain ⟨h1, h2⟩ := hk
    have h3 := get_list l (i + k) h1
    rw [h3] at h2
    exact ⟨h1, by omega, by omega, h3⟩
  have hb := l[i].toNat_lt
  have one : 128 ≤ l[i].toNat → (∀ j (hj : j < l.length), i ≤ j → j < i + 1 → 128 ≤ l[j].toNat) := fun h j hj h1 h2 => by
    have : j = i := by omega
    subst this; exact h
  unfold Go.Utf8.decode
  simp only [g0, hsz]
  split
  · rename_i h0
    exact ⟨by simp, by simp; omega, by simp; omega, fun _ => rfl, fun h => by omega⟩
  · rename_i h0
    split
    · rename_i h1
      simp only [Bool.and_eq_true] at h1
      obtain ⟨k1, a1, b1, c1⟩ := cont 1 h1.2
      have h11 : l[i].toNat / 32 = 6 := by simpa using h1.1
      rw [c1]
      split
      · rename_i h2
        refine ⟨by simp, by simp; omega, by simp; omega, fun h => by omega, fun _ => ⟨by simpa using h2, fun j hj e1 e2 => ?_⟩⟩
        simp only at e2
        have : j = i ∨ j = i + 1 := by omega
        rcases this with rfl | rfl
        · omega
        · exact a1
      · exact ⟨by simp, by simp; omega, by simp [Go.Utf8.runeError], fun h => by omega, fun h => ⟨by simp [Go.Utf8.runeError], one h⟩⟩
    · split
      · rename_i h1
        simp only [Bool.and_eq_true] at h1
        obtain ⟨k1, a1, b1, c1⟩ := cont 1 h1.1.2
        obtain ⟨k2, a2, b2, c2⟩ := cont 2 h1.2
        rw [c1, c2]
        split
        · rename_i h2
          simp only [Bool.and_eq_true, decide_eq_true_eq] at h2
          refine ⟨by simp, by simp; omega, by simp; omega, fun h => by omega, fun _ => ⟨by simp only; omega, fun j hj e1 e2 => ?_⟩⟩
          simp only at e2
          have : j = i ∨ j = i + 1 ∨ j = i + 2 := by omega
          rcases this with rfl | rfl | rfl
          · omega
          · exact a1
          · exact a2
        · exact ⟨by simp, by simp; omega, by simp [Go.Utf8.runeError], fun h => by omega, fun h => ⟨by simp [Go.Utf8.runeError], one h⟩⟩
      · split
        · rename_i h1
          simp only [Bool.and_eq_true] at h1
          obtain ⟨k1, a1, b1, c1⟩ := cont 1 h1.1.1.2
          obtain ⟨k2, a2, b2, c2⟩ := cont 2 h1.1.2
          obtain ⟨k3, a3, b3, c3⟩ := cont 3 h1.2
          rw [c1, c2, c3]
          split
          · rename_i h2
            simp only [Bool.and_eq_true, decide_eq_true_eq] at h2
            refine ⟨by simp, by simp; omega, ?_, fun h => by omega, fun _ => ⟨by simp only; omega, fun j hj e1 e2 => ?_⟩⟩
            · have := h2.2
              simp only [Go.Utf8.valid, Bool.or_eq_true, Bool.and_eq_true, decide_eq_true_eq] at this
              simp only; omega
            · simp only at e2
              have : j = i ∨ j = i + 1 ∨ j = i + 2 ∨ j = i + 3 := by omega
              rcases this with rfl | rfl | rfl | rfl
              · omega
              · exact a1
              · exact a2
              · exact a3
          · exact ⟨by simp, by simp; omega, by simp [Go.Utf8.runeError], fun h => by omega, fun h => ⟨by simp [Go.Utf8.runeError], one h⟩⟩
        · exact ⟨by simp, by simp; omega, by simp [Go.Utf8.runeError], fun h => by omega, fun h => ⟨by simp [Go.Utf8.runeError], one h⟩⟩
theorem irAns_neg (c : Int) (h : 128 ≤ c) : irAns c = -1 := by unfold irAns; rw [if_neg (by omega), if_neg (by omega), if_neg (by omega)]
theorem irAns_bad (c : UInt8) : decide (0 ≤ irAns (c.toNat : Int)) = bad3 c := by
  unfold irAns bad3
  split
  · simp_all
  · split
    · simp_all
    · split
      · simp_all
      · simp_all
theorem bad3_big {c : UInt8} (h : 128 ≤ c.toNat) : bad3 c = false := by
  simp only [bad3, Bool.or_eq_false_iff, decide_eq_false_iff_not]; omega
def gIA (as : List V) (h : H) : Option (V × H) :=
  match as with
  | [.s l, .s cs] => if cs = [0, 10, 13] ∧ l.length ≤ 65536 then some (.i .i64 (anyAns l), h) else none
  | _ => none

def LongLoop (l : List UInt8) (h : H) (b : Nat) (m : Nat) (t : Tm) (g : H) : Prop :=
  ∃ i : Nat, m = l.length - i ∧ i ≤ l.length ∧ t.v 8 = .i .i64 i ∧ t.v 0 = .s l ∧ t.v 6 = .p (some (b, 0, 0)) ∧ g.get b = some (.rows 256 [bits3] false) ∧ Kept h g ∧ ∀ j (hj : j < l.length), j < i → bad3 l[j] = false
def ShortLoop (l : List UInt8) (h : H) (b : Nat) (m : Nat) (t : Tm) (g : H) : Prop :=
  ∃ i : Nat, m = l.length - i ∧ i ≤ l.length ∧ t.v 45 = .p (some (b, 0, 0)) ∧ t.v 1 = .s [0, 10, 13] ∧ h.nx ≤ b ∧ g.get b = some (.iter l i) ∧ Kept h g ∧ ∀ j (hj : j < l.length), j < i → bad3 l[j] = false

theorem indexAny_ok {kr ku km kc : Nat} (hr : pr.ext kr = some gIR) (hu : pr.ext ku = some gUse) (hm : pr.ext km = some gMake) (hco : pr.ext kc = some gContains) : OkF pr (c_strings_IndexAny kr ku km kc) gIA := by
  intro as h v h' hg
  unfold gIA at hg
  split at hg
  · rename_i l cs
    split at hg
    · rename_i hcs
      obtain ⟨rfl, hmax⟩ := hcs
      cases hg
      have hcr := @wpCall_ext pr kr _ hr
      have hcu := @wpCall_ext pr ku _ hu
      have hcm := @wpCall_ext pr km _ hm
      have hcc := @wpCall_ext pr kc _ hco
      have xu : gUse [.i .i64 (l.length : Int)] h = some (.b (decide (8 < (l.length : Int))), h) := rfl
      have xm : gMake [.s [0, 10, 13]] h = some (.tup [.agg bits3, .b true], h) := rfl
      unfold wpF c_strings_IndexAny
      refine ⟨by simp, ?_⟩
      have hne : ¬ ([0, 10, 13] : List UInt8) = [] := by simp
      by_cases h8 : (8 : Int) < l.length
      · simp only [↓STEP, go_sem, ↓reduceIte, Nat.reduceEqDiff, Nat.reduceLeDiff, Nat.reduceLT, Nat.reduceAdd, Nat.reduceSub, Nat.reduceMul, Int.reduceLT, Int.reduceLE, Int.reduceEq, Int.reduceAdd, Int.reduceSub, Int.reduceMul, Int.reduceNeg, Int.reduceToNat, reduceCtorEq, hne, h8, hcu, hcm, xu, xm, bits3_len, bits3_flat]
        refine wpA_loop_inv (LongLoop l h h.nx) ?_ (m := l.length) ?_
        · rintro m t g ⟨i, rfl, hi, e8, e0, e6, hg, hk, hno⟩
          by_cases hlt : i < l.length
          · have hlt' : (i : Int) < (l.length : Int) := by omega
            have hget : l[i]? = some l[i] := List.getElem?_eq_getElem hlt
            have hwr : Go.IntKind.wrap .i64 ((i : Int) + 1) = (i : Int) + 1 := wrap_i64 (by omega) (by omega)
            have hx := gContains_eq h.nx l[i] g false hg
            cases hb : bad3 l[i]
            · simp only [↓STEP, go_sem, ↓reduceIte, Nat.reduceEqDiff, Nat.reduceLeDiff, Nat.reduceLT, Nat.reduceAdd, Nat.reduceSub, Nat.reduceMul, Int.reduceLT, Int.reduceLE, Int.reduceEq, Int.reduceAdd, Int.reduceSub, Int.reduceMul, Int.reduceNeg, Int.reduceToNat, reduceCtorEq, e8, e0, e6, hlt', hget, hcc, hx, hb, hwr]
              refine ⟨_, by omega, i + 1, rfl, by omega, by simp [v_pd], by simp [v_pd, e0], by simp [v_pd, e6], hg, hk, fun j hj h2 => ?_⟩
              by_cases hji : j = i
              · subst hji; exact hb
              · exact hno j hj (by omega)
            · simp only [↓STEP, go_sem, ↓reduceIte, Nat.reduceEqDiff, Nat.reduceLeDiff, Nat.reduceLT, Nat.reduceAdd, Nat.reduceSub, Nat.reduceMul, Int.reduceLT, Int.reduceLE, Int.reduceEq, Int.reduceAdd, Int.reduceSub, Int.reduceMul, Int.reduceNeg, Int.reduceToNat, reduceCtorEq, e8, e0, e6, hlt', hget, hcc, hx, hb, hwr]
              exact Abs.out (by rw [anyAns_at hlt hb (fun j hj => hno j (by omega) hj)]) rfl hk
          · have hlt' : ¬ (i : Int) < (l.length : Int) := by omega
            simp only [↓STEP, go_sem, ↓reduceIte, Nat.reduceEqDiff, Nat.reduceLeDiff, Nat.reduceLT, Nat.reduceAdd, Nat.reduceSub, Nat.reduceMul, Int.reduceLT, Int.reduceLE, Int.reduceEq, Int.reduceAdd, Int.reduceSub, Int.reduceMul, Int.reduceNeg, Int.reduceToNat, reduceCtorEq, e8, e0, e6, hlt']
            exact Abs.out (by rw [anyAns_none (fun j hj => hno j hj (by omega))]) rfl hk
        · refine ⟨0, rfl, Nat.zero_le _, by simp only [↓STEP, go_sem, ↓reduceIte, Nat.reduceEqDiff, Nat.reduceLeDiff, Nat.reduceLT, Nat.reduceAdd, Nat.reduceSub, Nat.reduceMul, Int.reduceLT, Int.reduceLE, Int.reduceEq, Int.reduceAdd, Int.reduceSub, Int.reduceMul, Int.reduceNeg, Int.reduceToNat, reduceCtorEq], by simp only [↓STEP, go_sem, ↓reduceIte, Nat.reduceEqDiff, Nat.reduceLeDiff, Nat.reduceLT, Nat.reduceAdd, Nat.reduceSub, Nat.reduceMul, Int.reduceLT, Int.reduceLE, Int.reduceEq, Int.reduceAdd, Int.reduceSub, Int.reduceMul, Int.reduceNeg, Int.reduceToNat, reduceCtorEq], by simp only [↓STEP, go_sem, ↓reduceIte, Nat.reduceEqDiff, Nat.reduceLeDiff, Nat.reduceLT, Nat.reduceAdd, Nat.reduceSub, Nat.reduceMul, Int.reduceLT, Int.reduceLE, Int.reduceEq, Int.reduceAdd, Int.reduceSub, Int.reduceMul, Int.reduceNeg, Int.reduceToNat, reduceCtorEq], ?_, ?_, fun j hj h => by omega⟩
          · simp only [↓STEP, go_sem, ↓reduceIte, Nat.reduceEqDiff, Nat.reduceLeDiff, Nat.reduceLT, Nat.reduceAdd, Nat.reduceSub, Nat.reduceMul, Int.reduceLT, Int.reduceLE, Int.reduceEq, Int.reduceAdd, Int.reduceSub, Int.reduceMul, Int.reduceNeg, Int.reduceToNat, reduceCtorEq]
          · (repeat (first | exact Kept.refl | apply Kept.push | refine Kept.kill ?_ (by omega) | refine Kept.set ?_ (by omega)))
      · simp only [↓STEP, go_sem, ↓reduceIte, Nat.reduceEqDiff, Nat.reduceLeDiff, Nat.reduceLT, Nat.reduceAdd, Nat.reduceSub, Nat.reduceMul, Int.reduceLT, Int.reduceLE, Int.reduceEq, Int.reduceAdd, Int.reduceSub, Int.reduceMul, Int.reduceNeg, Int.reduceToNat, reduceCtorEq, hne, h8, hcu, xu]
        refine wpA_loop_inv (ShortLoop l h h.nx) ?_ (m := l.length) ?_
        · rintro m t g ⟨i, rfl, hi, e45, e1, hb, hg, hk, hno⟩
          by_cases hlt : i < l.length
          · have hd := decode_spec l i hlt
            have hx : gIR [.s [0, 10, 13], .i .i32 ((Go.Utf8.decode ⟨l.toArray⟩ i).1 : Int)] (g.set h.nx (.iter l (i + (Go.Utf8.decode ⟨l.toArray⟩ i).2))) = some (.i .i64 (irAns ((Go.Utf8.decode ⟨l.toArray⟩ i).1 : Int)), g.set h.nx (.iter l (i + (Go.Utf8.decode ⟨l.toArray⟩ i).2))) := by
              simp only [gIR]; rw [if_pos ⟨trivial, by have := hd.2.2.1; omega⟩]
            generalize hdd : Go.Utf8.decode ⟨l.toArray⟩ i = d at hd hx
            obtain ⟨d1, d2⟩ := d
            simp only at hd hx
            obtain ⟨a1, a2, a3, a4, a5⟩ := hd
            by_cases hs : l[i].toNat < 128
            · have := a4 hs
              simp only [Prod.mk.injEq] at this
              obtain ⟨rfl, rfl⟩ := this
              have hia := irAns_bad l[i]
              cases hbb : bad3 l[i]
              · have hz : ¬ (0 : Int) ≤ irAns (l[i].toNat : Int) := by rw [hbb] at hia; simpa using hia
                simp only [↓STEP, go_sem, ↓reduceIte, Nat.reduceEqDiff, Nat.reduceLeDiff, Nat.reduceLT, Nat.reduceAdd, Nat.reduceSub, Nat.reduceMul, Int.reduceLT, Int.reduceLE, Int.reduceEq, Int.reduceAdd, Int.reduceSub, Int.reduceMul, Int.reduceNeg, Int.reduceToNat, reduceCtorEq, e45, e1, hg, hlt, hdd, hcr, hx, hz]
                refine ⟨_, by omega, i + 1, rfl, by omega, by simp [v_pd, e45], by simp [v_pd, e1], hb, by simp [H.get_set], hk.set (Nat.le_refl _), fun j hj h2 => ?_⟩
                by_cases hji : j = i
                · subst hji; exact hbb
                · exact hno j hj (by omega)
              · have hz : (0 : Int) ≤ irAns (l[i].toNat : Int) := by rw [hbb] at hia; simpa using hia
                simp only [↓STEP, go_sem, ↓reduceIte, Nat.reduceEqDiff, Nat.reduceLeDiff, Nat.reduceLT, Nat.reduceAdd, Nat.reduceSub, Nat.reduceMul, Int.reduceLT, Int.reduceLE, Int.reduceEq, Int.reduceAdd, Int.reduceSub, Int.reduceMul, Int.reduceNeg, Int.reduceToNat, reduceCtorEq, e45, e1, hg, hlt, hdd, hcr, hx, hz]
                exact Abs.out (by rw [anyAns_at hlt hbb (fun j hj => hno j (by omega) hj)]) rfl (hk.set (Nat.le_refl _))
            · obtain ⟨b1, b2⟩ := a5 (by omega)
              have hz : ¬ (0 : Int) ≤ irAns (d1 : Int) := by rw [irAns_neg _ (by omega)]; omega
              simp only [↓STEP, go_sem, ↓reduceIte, Nat.reduceEqDiff, Nat.reduceLeDiff, Nat.reduceLT, Nat.reduceAdd, Nat.reduceSub, Nat.reduceMul, Int.reduceLT, Int.reduceLE, Int.reduceEq, Int.reduceAdd, Int.reduceSub, Int.reduceMul, Int.reduceNeg, Int.reduceToNat, reduceCtorEq, e45, e1, hg, hlt, hdd, hcr, hx, hz]
              refine ⟨_, by omega, i + d2, rfl, by omega, by simp [v_pd, e45], by simp [v_pd, e1], hb, by simp [H.get_set], hk.set (Nat.le_refl _), fun j hj h2 => ?_⟩
              by_cases hji : j < i
              · exact hno j hj hji
              · exact bad3_big (b2 j hj (by omega) h2)
          · simp only [↓STEP, go_sem, ↓reduceIte, Nat.reduceEqDiff, Nat.reduceLeDiff, Nat.reduceLT, Nat.reduceAdd, Nat.reduceSub, Nat.reduceMul, Int.reduceLT, Int.reduceLE, Int.reduceEq, Int.reduceAdd, Int.reduceSub, Int.reduceMul, Int.reduceNeg, Int.reduceToNat, reduceCtorEq, e45, e1, hg, hlt]
            exact Abs.out (by rw [anyAns_none (fun j hj => hno j hj (by omega))]) rfl hk
        · refine ⟨0, rfl, Nat.zero_le _, by simp only [↓STEP, go_sem, ↓reduceIte, Nat.reduceEqDiff, Nat.reduceLeDiff, Nat.reduceLT, Nat.reduceAdd, Nat.reduceSub, Nat.reduceMul, Int.reduceLT, Int.reduceLE, Int.reduceEq, Int.reduceAdd, Int.reduceSub, Int.reduceMul, Int.reduceNeg, Int.reduceToNat, reduceCtorEq], by simp only [↓STEP, go_sem, ↓reduceIte, Nat.reduceEqDiff, Nat.reduceLeDiff, Nat.reduceLT, Nat.reduceAdd, Nat.reduceSub, Nat.reduceMul, Int.reduceLT, Int.reduceLE, Int.reduceEq, Int.reduceAdd, Int.reduceSub, Int.reduceMul, Int.reduceNeg, Int.reduceToNat, reduceCtorEq], Nat.le_refl _, ?_, ?_, fun j hj h => by omega⟩
          · simp only [↓STEP, go_sem, ↓reduceIte, Nat.reduceEqDiff, Nat.reduceLeDiff, Nat.reduceLT, Nat.reduceAdd, Nat.reduceSub, Nat.reduceMul, Int.reduceLT, Int.reduceLE, Int.reduceEq, Int.reduceAdd, Int.reduceSub, Int.reduceMul, Int.reduceNeg, Int.reduceToNat, reduceCtorEq]
          · (repeat (first | exact Kept.refl | apply Kept.push | refine Kept.kill ?_ (by omega) | refine Kept.set ?_ (by omega)))
    · cases hg
  · cases hg
end Am
