/- What the functions of the layer 'field' answer: the reference's names; values. -/
import Derived.Test.YtibmhhdgcbaofaaDoorField1
namespace Am
set_option linter.unusedVariables false
set_option linter.unusedSimpArgs false
set_option maxRecDepth 10000
set_option maxHeartbeats 4000000
variable {pr : Prog}

def gHas (as : List V) (h : H) : Option (V × H) :=
  match as with
  | [.s l, .i .u8 n] => if 0 ≤ n ∧ n < 256 then some (.b (l.contains (UInt8.ofNat n.toNat)), h) else none
  | _ => none
theorem gHas_eq (l : List UInt8) (c : UInt8) (h : H) : gHas [.s l, .i .u8 (c.toNat : Int)] h = some (.b (l.contains c), h) := by
  have h1 : (c.toNat : Int) < 256 := by have := c.toNat_lt; omega
  simp only [gHas]
  rw [if_pos ⟨Int.natCast_nonneg _, h1⟩]; simp
def HasLoop (l : List UInt8) (n : Int) (h : H) (m : Nat) (t : Tm) (g : H) : Prop :=
  ∃ i : Nat, m = l.length - i ∧ i ≤ l.length ∧ t.v 5 = .i .i64 i ∧ t.v 0 = .s l ∧ t.v 1 = .i .u8 n ∧ g = h ∧ (l.take i).contains (UInt8.ofNat n.toNat) = false
theorem has_ok (hmax : ∀ l : List UInt8, True) : ∀ args h v h', gHas args h = some (v, h') → (∀ l n, args = [V.s l, V.i .u8 n] → l.length < 9223372036854775807) → wpF pr c_isthmusref3_has args h (fun v1 h1 => Abs h v1 h1 v h') := by
  intro as h v h' hg hlen
  unfold gHas at hg
  split at hg
  · rename_i l n
    split at hg
    · rename_i hn
      cases hg
      have hlen := hlen l n rfl
      unfold wpF c_isthmusref3_has
      refine ⟨by simp, ?_⟩
      simp only [↓STEP, go_sem, ↓reduceIte, Nat.reduceEqDiff, Nat.reduceLeDiff, Nat.reduceLT, Nat.reduceAdd, Nat.reduceSub, Nat.reduceMul, Int.reduceLT, Int.reduceLE, Int.reduceEq, Int.reduceAdd, Int.reduceSub, Int.reduceMul, Int.reduceNeg, Int.reduceToNat, reduceCtorEq]
      refine wpA_loop_inv (HasLoop l n h) ?_ (m := l.length) ?_
      · rintro m t g ⟨i, rfl, hi, e5, e0, e1, rfl, hno⟩
        by_cases hlt : i < l.length
        · have hlt' : (i : Int) < (l.length : Int) := by omega
          have hget : l[i]? = some l[i] := List.getElem?_eq_getElem hlt
          have hwr : Go.IntKind.wrap .i64 ((i : Int) + 1) = (i : Int) + 1 := wrap_i64 (by omega) (by omega)
          by_cases hc : (l[i].toNat : Int) = n
          · simp only [↓STEP, go_sem, ↓reduceIte, Nat.reduceEqDiff, Nat.reduceLeDiff, Nat.reduceLT, Nat.reduceAdd, Nat.reduceSub, Nat.reduceMul, Int.reduceLT, Int.reduceLE, Int.reduceEq, Int.reduceAdd, Int.reduceSub, Int.reduceMul, Int.reduceNeg, Int.reduceToNat, reduceCtorEq, e5, e0, e1, hlt', hget, hc]
            refine Abs.eq ?_ rfl
            have : UInt8.ofNat n.toNat = l[i] := by rw [← hc]; simp
            rw [this]
            simp [List.contains_iff_mem]
          · simp only [↓STEP, go_sem, ↓reduceIte, Nat.reduceEqDiff, Nat.reduceLeDiff, Nat.reduceLT, Nat.reduceAdd, Nat.reduceSub, Nat.reduceMul, Int.reduceLT, Int.reduceLE, Int.reduceEq, Int.reduceAdd, Int.reduceSub, Int.reduceMul, Int.reduceNeg, Int.reduceToNat, reduceCtorEq, e5, e0, e1, hlt', hget, hc, hwr]
            refine ⟨_, by omega, i + 1, rfl, by omega, by simp [v_pd], by simp [v_pd, e0], by simp [v_pd, e1], rfl, ?_⟩
            rw [List.take_succ_eq_append_getElem hlt, List.contains_append, hno]
            simp
            intro hh
            apply hc
            rw [← hh]
            have : n.toNat < 256 := by omega
            simp [UInt8.toNat_ofNat, this]
            omega
        · have hlt' : ¬ (i : Int) < (l.length : Int) := by omega
          simp only [↓STEP, go_sem, ↓reduceIte, Nat.reduceEqDiff, Nat.reduceLeDiff, Nat.reduceLT, Nat.reduceAdd, Nat.reduceSub, Nat.reduceMul, Int.reduceLT, Int.reduceLE, Int.reduceEq, Int.reduceAdd, Int.reduceSub, Int.reduceMul, Int.reduceNeg, Int.reduceToNat, reduceCtorEq, e5, e0, e1, hlt']
          refine Abs.eq ?_ rfl
          have : i = l.length := by omega
          rw [this, List.take_length] at hno
          rw [hno]
      · exact ⟨0, rfl, Nat.zero_le _, by simp only [↓STEP, go_sem, ↓reduceIte, Nat.reduceEqDiff, Nat.reduceLeDiff, Nat.reduceLT, Nat.reduceAdd, Nat.reduceSub, Nat.reduceMul, Int.reduceLT, Int.reduceLE, Int.reduceEq, Int.reduceAdd, Int.reduceSub, Int.reduceMul, Int.reduceNeg, Int.reduceToNat, reduceCtorEq], by simp only [↓STEP, go_sem, ↓reduceIte, Nat.reduceEqDiff, Nat.reduceLeDiff, Nat.reduceLT, Nat.reduceAdd, Nat.reduceSub, Nat.reduceMul, Int.reduceLT, Int.reduceLE, Int.reduceEq, Int.reduceAdd, Int.reduceSub, Int.reduceMul, Int.reduceNeg, Int.reduceToNat, reduceCtorEq], by simp only [↓STEP, go_sem, ↓reduceIte, Nat.reduceEqDiff, Nat.reduceLeDiff, Nat.reduceLT, Nat.reduceAdd, Nat.reduceSub, Nat.reduceMul, Int.reduceLT, Int.reduceLE, Int.reduceEq, Int.reduceAdd, Int.reduceSub, Int.reduceMul, Int.reduceNeg, Int.reduceToNat, reduceCtorEq], rfl, by simp⟩
    · cases hg
  · cases hg
def gHas' (as : List V) (h : H) : Option (V × H) :=
  match as with
  | [.s l, .i .u8 n] => if l.length < 9223372036854775807 then gHas [.s l, .i .u8 n] h else none
  | _ => none
theorem has_ok' : OkF pr c_isthmusref3_has gHas' := by
  intro as h v h' hg
  unfold gHas' at hg
  split at hg
  · rename_i l n
    split at hg
    · rename_i hl
      exact has_ok (fun _ => trivial) _ _ _ _ hg (fun l' n' he => by cases he; exact hl)
    · cases hg
  · cases hg
theorem gHas'_eq (l : List UInt8) (c : UInt8) (h : H) (hl : l.length < 9223372036854775807) : gHas' [.s l, .i .u8 (c.toNat : Int)] h = some (.b (l.contains c), h) := by
  simp only [gHas']; rw [if_pos hl, gHas_eq]

def Name3Loop (l : List UInt8) (h : H) (m : Nat) (t : Tm) (g : H) : Prop :=
  ∃ i : Nat, m = l.length - i ∧ i ≤ l.length ∧ t.v 3 = .i .i64 i ∧ t.v 0 = .s l ∧ g = h ∧ (l.take i).all nameCh = true
theorem name3_ok {k : Nat} (hw : pr.ext k = some gHas') : OkF pr (c_isthmusref3_Name k) gName := by
  intro as h v h' hg
  unfold gName at hg
  split at hg
  · rename_i l
    cases hg
    have hc := @wpCall_ext pr k _ hw
    unfold wpF c_isthmusref3_Name
    refine ⟨by simp, ?_⟩
    by_cases he : l.length = 0
    · obtain rfl := List.length_eq_zero_iff.1 he
      simp only [↓STEP, go_sem, ↓reduceIte, Nat.reduceEqDiff, Nat.reduceLeDiff, Nat.reduceLT, Nat.reduceAdd, Nat.reduceSub, Nat.reduceMul, Int.reduceLT, Int.reduceLE, Int.reduceEq, Int.reduceAdd, Int.reduceSub, Int.reduceMul, Int.reduceNeg, Int.reduceToNat, reduceCtorEq]
      exact Abs.eq rfl rfl
    · have he' : ¬ (l.length : Int) = 0 := by omega
      have hne : l ≠ [] := by rintro rfl; simp at he
      by_cases hl : (65536 : Int) < l.length
      · simp only [↓STEP, go_sem, ↓reduceIte, Nat.reduceEqDiff, Nat.reduceLeDiff, Nat.reduceLT, Nat.reduceAdd, Nat.reduceSub, Nat.reduceMul, Int.reduceLT, Int.reduceLE, Int.reduceEq, Int.reduceAdd, Int.reduceSub, Int.reduceMul, Int.reduceNeg, Int.reduceToNat, reduceCtorEq, he', hl]
        exact Abs.eq (by unfold nameB; rw [decide_eq_false (by omega)]; simp) rfl
      · simp only [↓STEP, go_sem, ↓reduceIte, Nat.reduceEqDiff, Nat.reduceLeDiff, Nat.reduceLT, Nat.reduceAdd, Nat.reduceSub, Nat.reduceMul, Int.reduceLT, Int.reduceLE, Int.reduceEq, Int.reduceAdd, Int.reduceSub, Int.reduceMul, Int.reduceNeg, Int.reduceToNat, reduceCtorEq, he', hl]
        refine wpA_loop_inv (Name3Loop l h) ?_ (m := l.length) ?_
        · rintro m t g ⟨i, rfl, hi, e3, e0, rfl, hall⟩
          by_cases hlt : i < l.length
          · have hlt' : (i : Int) < (l.length : Int) := by omega
            have hget : l[i]? = some l[i] := List.getElem?_eq_getElem hlt
            have hwr : Go.IntKind.wrap .i64 ((i : Int) + 1) = (i : Int) + 1 := wrap_i64 (by omega) (by omega)
            have hx : gHas' [.s [33, 35, 36, 37, 38, 39, 42, 43, 45, 46, 94, 95, 96, 124, 126], .i .u8 (l[i].toNat : Int)] g = some (.b (marks.contains l[i]), g) := gHas'_eq marks l[i] g (by decide)
            have good : nameCh l[i] = true → ∀ t' : Tm, t'.v 3 = .i .i64 ((i : Int) + 1) → t'.v 0 = t.v 0 → ∃ m', m' < l.length - i ∧ Name3Loop l g m' t' g := fun hn t' h1 h3 =>
              ⟨_, by omega, i + 1, rfl, by omega, by rw [h1]; simp, by rw [h3, e0], rfl, all_take_succ hlt hall hn⟩
            have bad : nameCh l[i] = false → Abs g (V.b false) g (V.b (nameB l)) g := fun hn => Abs.eq (by unfold nameB; rw [all_false hlt hn]; simp) rfl
            generalize hmk : marks.contains l[i] = mk at hx
            by_cases a : (97 : Int) ≤ l[i].toNat
            · by_cases b : (l[i].toNat : Int) ≤ 122
              · simp only [↓STEP, go_sem, ↓reduceIte, Nat.reduceEqDiff, Nat.reduceLeDiff, Nat.reduceLT, Nat.reduceAdd, Nat.reduceSub, Nat.reduceMul, Int.reduceLT, Int.reduceLE, Int.reduceEq, Int.reduceAdd, Int.reduceSub, Int.reduceMul, Int.reduceNeg, Int.reduceToNat, reduceCtorEq, hc, hx, e3, e0, hlt', hget, a, b, hwr]
                exact good (by simp [nameCh, a, b]) _ (by simp [v_pd]) (by simp [v_pd])
              · have d : (48 : Int) ≤ l[i].toNat := by omega
                have e : ¬ (l[i].toNat : Int) ≤ 57 := by omega
                cases mk
                · simp only [↓STEP, go_sem, ↓reduceIte, Nat.reduceEqDiff, Nat.reduceLeDiff, Nat.reduceLT, Nat.reduceAdd, Nat.reduceSub, Nat.reduceMul, Int.reduceLT, Int.reduceLE, Int.reduceEq, Int.reduceAdd, Int.reduceSub, Int.reduceMul, Int.reduceNeg, Int.reduceToNat, reduceCtorEq, hc, hx, e3, e0, hlt', hget, a, b, d, e, hwr]
                  exact bad (by unfold nameCh; rw [hmk]; simp [b, e])
                · simp only [↓STEP, go_sem, ↓reduceIte, Nat.reduceEqDiff, Nat.reduceLeDiff, Nat.reduceLT, Nat.reduceAdd, Nat.reduceSub, Nat.reduceMul, Int.reduceLT, Int.reduceLE, Int.reduceEq, Int.reduceAdd, Int.reduceSub, Int.reduceMul, Int.reduceNeg, Int.reduceToNat, reduceCtorEq, hc, hx, e3, e0, hlt', hget, a, b, d, e, hwr]
                  exact good (by unfold nameCh; rw [hmk]; simp) _ (by simp [v_pd]) (by simp [v_pd])
            · by_cases d : (48 : Int) ≤ l[i].toNat
              · by_cases e : (l[i].toNat : Int) ≤ 57
                · simp only [↓STEP, go_sem, ↓reduceIte, Nat.reduceEqDiff, Nat.reduceLeDiff, Nat.reduceLT, Nat.reduceAdd, Nat.reduceSub, Nat.reduceMul, Int.reduceLT, Int.reduceLE, Int.reduceEq, Int.reduceAdd, Int.reduceSub, Int.reduceMul, Int.reduceNeg, Int.reduceToNat, reduceCtorEq, hc, hx, e3, e0, hlt', hget, a, d, e, hwr]
                  exact good (by simp [nameCh, d, e]) _ (by simp [v_pd]) (by simp [v_pd])
                · cases mk
                  · simp only [↓STEP, go_sem, ↓reduceIte, Nat.reduceEqDiff, Nat.reduceLeDiff, Nat.reduceLT, Nat.reduceAdd, Nat.reduceSub, Nat.reduceMul, Int.reduceLT, Int.reduceLE, Int.reduceEq, Int.reduceAdd, Int.reduceSub, Int.reduceMul, Int.reduceNeg, Int.reduceToNat, reduceCtorEq, hc, hx, e3, e0, hlt', hget, a, d, e, hwr]
                    exact bad (by unfold nameCh; rw [hmk]; simp [a, e])
                  · simp only [↓STEP, go_sem, ↓reduceIte, Nat.reduceEqDiff, Nat.reduceLeDiff, Nat.reduceLT, Nat.reduceAdd, Nat.reduceSub, Nat.reduceMul, Int.reduceLT, Int.reduceLE, Int.reduceEq, Int.reduceAdd, Int.reduceSub, Int.reduceMul, Int.reduceNeg, Int.reduceToNat, reduceCtorEq, hc, hx, e3, e0, hlt', hget, a, d, e, hwr]
                    exact good (by unfold nameCh; rw [hmk]; simp) _ (by simp [v_pd]) (by simp [v_pd])
              · cases mk
                · simp only [↓STEP, go_sem, ↓reduceIte, Nat.reduceEqDiff, Nat.reduceLeDiff, Nat.reduceLT, Nat.reduceAdd, Nat.reduceSub, Nat.reduceMul, Int.reduceLT, Int.reduceLE, Int.reduceEq, Int.reduceAdd, Int.reduceSub, Int.reduceMul, Int.reduceNeg, Int.reduceToNat, reduceCtorEq, hc, hx, e3, e0, hlt', hget, a, d, hwr]
                  exact bad (by unfold nameCh; rw [hmk]; simp [a, d])
                · simp only [↓STEP, go_sem, ↓reduceIte, Nat.reduceEqDiff, Nat.reduceLeDiff, Nat.reduceLT, Nat.reduceAdd, Nat.reduceSub, Nat.reduceMul, Int.reduceLT, Int.reduceLE, Int.reduceEq, Int.reduceAdd, Int.reduceSub, Int.reduceMul, Int.reduceNeg, Int.reduceToNat, reduceCtorEq, hc, hx, e3, e0, hlt', hget, a, d, hwr]
                  exact good (by unfold nameCh; rw [hmk]; simp) _ (by simp [v_pd]) (by simp [v_pd])
          · have hlt' : ¬ (i : Int) < (l.length : Int) := by omega
            simp only [↓STEP, go_sem, ↓reduceIte, Nat.reduceEqDiff, Nat.reduceLeDiff, Nat.reduceLT, Nat.reduceAdd, Nat.reduceSub, Nat.reduceMul, Int.reduceLT, Int.reduceLE, Int.reduceEq, Int.reduceAdd, Int.reduceSub, Int.reduceMul, Int.reduceNeg, Int.reduceToNat, reduceCtorEq, e3, e0, hlt']
            refine Abs.eq ?_ rfl
            have : i = l.length := by omega
            rw [this, List.take_length] at hall
            have h2 : decide (l.length ≤ 65536) = true := by simp; omega
            simp [nameB, h2, hall, hne]
        · exact ⟨0, rfl, Nat.zero_le _, by simp only [↓STEP, go_sem, ↓reduceIte, Nat.reduceEqDiff, Nat.reduceLeDiff, Nat.reduceLT, Nat.reduceAdd, Nat.reduceSub, Nat.reduceMul, Int.reduceLT, Int.reduceLE, Int.reduceEq, Int.reduceAdd, Int.reduceSub, Int.reduceMul, Int.reduceNeg, Int.reduceToNat, reduceCtorEq], by simp only [↓STEP, go_sem, ↓reduceIte, Nat.reduceEqDiff, Nat.reduceLeDiff, Nat.reduceLT, Nat.reduceAdd, Nat.reduceSub, Nat.reduceMul, Int.reduceLT, Int.reduceLE, Int.reduceEq, Int.reduceAdd, Int.reduceSub, Int.reduceMul, Int.reduceNeg, Int.reduceToNat, reduceCtorEq], rfl, by simp⟩
  · cases hg

/-! ### Values -/
def blankB (c : UInt8) : Bool := decide ((c.toNat : Int) = 32) || decide ((c.toNat : Int) = 9)
def gBlank (as : List V) (h : H) : Option (V × H) :=
  match as with
  | [.i .u8 n] => some (.b (decide (n = 32) || decide (n = 9)), h)
  | _ => none
theorem gBlank_eq (c : UInt8) (h : H) : gBlank [.i .u8 (c.toNat : Int)] h = some (.b (blankB c), h) := rfl
theorem blank_ok : OkF pr c_field_blank gBlank := by
  intro as h v h' hg
  unfold gBlank at hg
  split at hg
  · rename_i n
    cases hg
    unfold wpF c_field_blank
    refine ⟨by simp, ?_⟩
    by_cases h1 : n = 32
    · simp only [↓STEP, go_sem, ↓reduceIte, Nat.reduceEqDiff, Nat.reduceLeDiff, Nat.reduceLT, Nat.reduceAdd, Nat.reduceSub, Nat.reduceMul, Int.reduceLT, Int.reduceLE, Int.reduceEq, Int.reduceAdd, Int.reduceSub, Int.reduceMul, Int.reduceNeg, Int.reduceToNat, reduceCtorEq, h1]
      exact Abs.eq rfl rfl
    · simp only [↓STEP, go_sem, ↓reduceIte, Nat.reduceEqDiff, Nat.reduceLeDiff, Nat.reduceLT, Nat.reduceAdd, Nat.reduceSub, Nat.reduceMul, Int.reduceLT, Int.reduceLE, Int.reduceEq, Int.reduceAdd, Int.reduceSub, Int.reduceMul, Int.reduceNeg, Int.reduceToNat, reduceCtorEq, h1]
      exact Abs.eq rfl rfl
  · cases hg
def bad3 (c : UInt8) : Bool := decide ((c.toNat : Int) = 0) || decide ((c.toNat : Int) = 10) || decide ((c.toNat : Int) = 13)
def valueB (l : List UInt8) : Bool := decide (l.length ≤ 65536) && !l.any bad3 && (match l with
  | [] => true
  | c :: _ => !blankB c && !blankB (l.getLastD 0))
def gValue (as : List V) (h : H) : Option (V × H) :=
  match as with
  | [.s l] => some (.b (valueB l), h)
  | _ => none
theorem gValue_eq (l : List UInt8) (h : H) : gValue [.s l] h = some (.b (valueB l), h) := rfl
/-- strings.ContainsAny with the three bytes that a value may not hold. -/
def gCA (as : List V) (h : H) : Option (V × H) :=
  match as with
  | [.s l, .s cs] => if cs = [0, 10, 13] ∧ l.length ≤ 65536 then some (.b (l.any bad3), h) else none
  | _ => none
theorem gCA_eq (l : List UInt8) (h : H) (hl : l.length ≤ 65536) : gCA [.s l, .s [0, 10, 13]] h = some (.b (l.any bad3), h) := by
  simp only [gCA]; rw [if_pos ⟨trivial, hl⟩]
theorem value_ok {k kb : Nat} (hw : pr.ext k = some gCA) (hb : pr.ext kb = some gBlank) : OkF pr (c_field_Value k kb) gValue := by
  intro as h v h' hg
  unfold gValue at hg
  split at hg
  · rename_i l
    cases hg
    have hc := @wpCall_ext pr k _ hw
    have hcb := @wpCall_ext pr kb _ hb
    unfold wpF c_field_Value
    refine ⟨by simp, ?_⟩
    by_cases hl : (65536 : Int) < l.length
    · simp only [↓STEP, go_sem, ↓reduceIte, Nat.reduceEqDiff, Nat.reduceLeDiff, Nat.reduceLT, Nat.reduceAdd, Nat.reduceSub, Nat.reduceMul, Int.reduceLT, Int.reduceLE, Int.reduceEq, Int.reduceAdd, Int.reduceSub, Int.reduceMul, Int.reduceNeg, Int.reduceToNat, reduceCtorEq, hl]
      exact Abs.eq (by unfold valueB; rw [decide_eq_false (by omega)]; simp) rfl
    · have hl' : l.length ≤ 65536 := by omega
      have hca := gCA_eq l h hl'
      cases hbad : l.any bad3
      · rw [hbad] at hca
        cases l with
        | nil =>
          simp only [↓STEP, go_sem, ↓reduceIte, Nat.reduceEqDiff, Nat.reduceLeDiff, Nat.reduceLT, Nat.reduceAdd, Nat.reduceSub, Nat.reduceMul, Int.reduceLT, Int.reduceLE, Int.reduceEq, Int.reduceAdd, Int.reduceSub, Int.reduceMul, Int.reduceNeg, Int.reduceToNat, reduceCtorEq, hl, hc, hca]
          exact Abs.eq rfl rfl
        | cons c cs =>
          have hne : ¬ (c :: cs) = [] := by simp
          have hw1 : Go.IntKind.wrap .i64 (((c :: cs).length : Int) - 1) = (((c :: cs).length : Int) - 1) := wrap_i64 (by simp) (by omega)
          have hge : (0 : Int) ≤ ((c :: cs).length : Int) - 1 := by simp
          have hn : (((c :: cs).length : Int) - 1).toNat = cs.length := by simp
          have hlast : (c :: cs)[cs.length]? = some ((c :: cs).getLastD 0) := by
            rw [List.getLastD_eq_getLast?, List.getLast?_eq_getElem?]; simp
          have hgb := gBlank_eq c h
          have hgl := gBlank_eq ((c :: cs).getLastD 0) h
          generalize hL : (c :: cs) = L at *
          have h0 : L[0]? = some c := by rw [← hL]; rfl
          cases b1 : blankB c
          · simp only [↓STEP, go_sem, ↓reduceIte, Nat.reduceEqDiff, Nat.reduceLeDiff, Nat.reduceLT, Nat.reduceAdd, Nat.reduceSub, Nat.reduceMul, Int.reduceLT, Int.reduceLE, Int.reduceEq, Int.reduceAdd, Int.reduceSub, Int.reduceMul, Int.reduceNeg, Int.reduceToNat, reduceCtorEq, hl, hc, hca, hcb, hne, hw1, hge, hn, hlast, h0, hgb, hgl, b1]
            refine Abs.eq ?_ rfl
            unfold valueB; rw [hbad, decide_eq_true hl', ← hL]; simp [b1]
          · simp only [↓STEP, go_sem, ↓reduceIte, Nat.reduceEqDiff, Nat.reduceLeDiff, Nat.reduceLT, Nat.reduceAdd, Nat.reduceSub, Nat.reduceMul, Int.reduceLT, Int.reduceLE, Int.reduceEq, Int.reduceAdd, Int.reduceSub, Int.reduceMul, Int.reduceNeg, Int.reduceToNat, reduceCtorEq, hl, hc, hca, hcb, hne, hw1, hge, hn, hlast, h0, hgb, hgl, b1]
            refine Abs.eq ?_ rfl
            unfold valueB; rw [hbad, decide_eq_true hl', ← hL]; simp [b1]
      · rw [hbad] at hca
        simp only [↓STEP, go_sem, ↓reduceIte, Nat.reduceEqDiff, Nat.reduceLeDiff, Nat.reduceLT, Nat.reduceAdd, Nat.reduceSub, Nat.reduceMul, Int.reduceLT, Int.reduceLE, Int.reduceEq, Int.reduceAdd, Int.reduceSub, Int.reduceMul, Int.reduceNeg, Int.reduceToNat, reduceCtorEq, hl, hc, hca]
        exact Abs.eq (by unfold valueB; rw [hbad]; simp) rfl
  · cases hg
end Am
