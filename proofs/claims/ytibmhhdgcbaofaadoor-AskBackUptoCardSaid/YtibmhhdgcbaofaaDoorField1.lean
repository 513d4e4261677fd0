/- What the functions of the layer 'field' answer: names. -/
import Derived.Test.YtibmhhdgcbaofaaDoorAmAll3
import Derived.Test.YtibmhhdgcbaofaaDoorAmAll2
import Derived.Test.YtibmhhdgcbaofaaDoorCodesAll
namespace Am
set_option linter.unusedVariables false
set_option linter.unusedSimpArgs false
set_option maxRecDepth 10000
set_option maxHeartbeats 4000000
variable {pr : Prog}
/-- What is asked of a rule that stands for a function. -/
def OkF (pr : Prog) (af : AFunc) (g : List V → H → Option (V × H)) : Prop := ∀ args h v h', g args h = some (v, h') → wpF pr af args h (fun v1 h1 => Abs h v1 h1 v h')

theorem xIndexByte_eq (l : List UInt8) (c : UInt8) (h : H) : xIndexByte [.s l, .i .u8 (c.toNat : Int)] h = some (.i .i64 (fIdx l c), h) := by
  simp [xIndexByte]
theorem indexByteS_ok {k : Nat} (hw : pr.ext k = some xIndexByte) : OkF pr (c_stringslite_IndexByte k) xIndexByte := by
  intro as h v h' hg
  have hg0 := hg
  unfold xIndexByte at hg
  split at hg
  · rename_i l c
    cases hg
    have hc := @wpCall_ext pr k _ hw
    unfold wpF c_stringslite_IndexByte
    refine ⟨by simp, ?_⟩
    simp only [↓STEP, go_sem, ↓reduceIte, Nat.reduceEqDiff, Nat.reduceLeDiff, Nat.reduceLT, Nat.reduceAdd, Nat.reduceSub, Nat.reduceMul, Int.reduceLT, Int.reduceLE, Int.reduceEq, Int.reduceAdd, Int.reduceSub, Int.reduceMul, Int.reduceNeg, Int.reduceToNat, reduceCtorEq, hc, hg0]
    exact Abs.refl
  · cases hg
theorem indexByte_ok' {k : Nat} (hw : pr.ext k = some xIndexByte) : OkF pr (c_strings_IndexByte k) xIndexByte := by
  intro as h v h' hg
  have hg0 := hg
  unfold xIndexByte at hg
  split at hg
  · rename_i l c
    cases hg
    have hc := @wpCall_ext pr k _ hw
    unfold wpF c_strings_IndexByte
    refine ⟨by simp, ?_⟩
    simp only [↓STEP, go_sem, ↓reduceIte, Nat.reduceEqDiff, Nat.reduceLeDiff, Nat.reduceLT, Nat.reduceAdd, Nat.reduceSub, Nat.reduceMul, Int.reduceLT, Int.reduceLE, Int.reduceEq, Int.reduceAdd, Int.reduceSub, Int.reduceMul, Int.reduceNeg, Int.reduceToNat, reduceCtorEq, hc, hg0]
    exact Abs.refl
  · cases hg

theorem fIdx_nonneg (l : List UInt8) (c : UInt8) : decide (0 ≤ fIdx l c) = l.contains c := by
  unfold fIdx
  cases h : l.findIdx? (fun b => b == c) with
  | none =>
    rw [List.findIdx?_eq_none_iff] at h
    have : l.contains c = false := by
      rw [List.contains_eq_any_beq, List.any_eq_false]
      intro x hx; have := h x hx; simp at this ⊢; exact fun hh => this hh.symm
    rw [this]; rfl
  | some i =>
    obtain ⟨hi, hb, _⟩ := List.findIdx?_eq_some_iff_getElem.1 h
    have : l.contains c = true := by
      rw [List.contains_eq_any_beq, List.any_eq_true]
      exact ⟨l[i], List.getElem_mem hi, by simp at hb ⊢; exact hb.symm⟩
    rw [this]; simp

def marks : List UInt8 := [33, 35, 36, 37, 38, 39, 42, 43, 45, 46, 94, 95, 96, 124, 126]
def nameCh (c : UInt8) : Bool := (decide ((97 : Int) ≤ c.toNat) && decide ((c.toNat : Int) ≤ 122)) || (decide ((48 : Int) ≤ c.toNat) && decide ((c.toNat : Int) ≤ 57)) || marks.contains c
def nameB (l : List UInt8) : Bool := !l.isEmpty && decide (l.length ≤ 65536) && l.all nameCh
def gName (as : List V) (h : H) : Option (V × H) :=
  match as with
  | [.s l] => some (.b (nameB l), h)
  | _ => none
theorem gName_eq (l : List UInt8) (h : H) : gName [.s l] h = some (.b (nameB l), h) := rfl
def NameLoop (l : List UInt8) (h : H) (m : Nat) (t : Tm) (g : H) : Prop :=
  ∃ i : Nat, m = l.length - i ∧ i ≤ l.length ∧ t.v 14 = .i .i64 i ∧ t.v 13 = .i .i64 l.length ∧ t.v 0 = .s l ∧ g = h ∧ (l.take i).all nameCh = true
theorem all_take_succ {p : UInt8 → Bool} {l : List UInt8} {i : Nat} (hi : i < l.length) (h : (l.take i).all p = true) (hc : p l[i] = true) : (l.take (i + 1)).all p = true := by
  rw [List.take_succ_eq_append_getElem hi, List.all_append, h]; simp [hc]
theorem all_false {p : UInt8 → Bool} {l : List UInt8} {i : Nat} (hi : i < l.length) (hc : p l[i] = false) : l.all p = false := by
  rw [List.all_eq_false]; exact ⟨l[i], List.getElem_mem hi, by simp [hc]⟩

theorem name_ok {k : Nat} (hw : pr.ext k = some xIndexByte) : OkF pr (c_field_Name k) gName := by
  intro as h v h' hg
  unfold gName at hg
  split at hg
  · rename_i l
    cases hg
    have hc := @wpCall_ext pr k _ hw
    unfold wpF c_field_Name
    refine ⟨by simp, ?_⟩
    by_cases he : l = []
    · subst he
      simp only [↓STEP, go_sem, ↓reduceIte, Nat.reduceEqDiff, Nat.reduceLeDiff, Nat.reduceLT, Nat.reduceAdd, Nat.reduceSub, Nat.reduceMul, Int.reduceLT, Int.reduceLE, Int.reduceEq, Int.reduceAdd, Int.reduceSub, Int.reduceMul, Int.reduceNeg, Int.reduceToNat, reduceCtorEq]
      exact Abs.eq rfl rfl
    · by_cases hl : (65536 : Int) < l.length
      · simp only [↓STEP, go_sem, ↓reduceIte, Nat.reduceEqDiff, Nat.reduceLeDiff, Nat.reduceLT, Nat.reduceAdd, Nat.reduceSub, Nat.reduceMul, Int.reduceLT, Int.reduceLE, Int.reduceEq, Int.reduceAdd, Int.reduceSub, Int.reduceMul, Int.reduceNeg, Int.reduceToNat, reduceCtorEq, he, hl]
        exact Abs.eq (by unfold nameB; rw [decide_eq_false (by omega)]; simp) rfl
      · simp only [↓STEP, go_sem, ↓reduceIte, Nat.reduceEqDiff, Nat.reduceLeDiff, Nat.reduceLT, Nat.reduceAdd, Nat.reduceSub, Nat.reduceMul, Int.reduceLT, Int.reduceLE, Int.reduceEq, Int.reduceAdd, Int.reduceSub, Int.reduceMul, Int.reduceNeg, Int.reduceToNat, reduceCtorEq, he, hl]
        refine wpA_loop_inv (NameLoop l h) ?_ (m := l.length) ?_
        · rintro m t g ⟨i, rfl, hi, e14, e13, e0, rfl, hall⟩
          by_cases hlt : i < l.length
          · have hlt' : (i : Int) < (l.length : Int) := by omega
            have hget : l[i]? = some l[i] := List.getElem?_eq_getElem hlt
            have hwr : Go.IntKind.wrap .i64 ((i : Int) + 1) = (i : Int) + 1 := wrap_i64 (by omega) (by omega)
            have hx := xIndexByte_eq marks l[i]
            have hm : marks = [33, 35, 36, 37, 38, 39, 42, 43, 45, 46, 94, 95, 96, 124, 126] := rfl
            rw [hm] at hx
            have good : nameCh l[i] = true → ∀ t' : Tm, t'.v 14 = .i .i64 ((i : Int) + 1) → t'.v 13 = t.v 13 → t'.v 0 = t.v 0 → ∃ m', m' < l.length - i ∧ NameLoop l g m' t' g := fun hn t' h1 h2 h3 =>
              ⟨_, by omega, i + 1, rfl, by omega, by rw [h1]; simp, by rw [h2, e13], by rw [h3, e0], rfl, all_take_succ hlt hall hn⟩
            have bad : nameCh l[i] = false → Abs g (V.b false) g (V.b (nameB l)) g := fun hn => Abs.eq (by unfold nameB; rw [all_false hlt hn]; simp) rfl
            have ft : 0 ≤ fIdx [33, 35, 36, 37, 38, 39, 42, 43, 45, 46, 94, 95, 96, 124, 126] l[i] → marks.contains l[i] = true := fun f => by rw [← fIdx_nonneg marks l[i]]; exact decide_eq_true f
            have ff : ¬ 0 ≤ fIdx [33, 35, 36, 37, 38, 39, 42, 43, 45, 46, 94, 95, 96, 124, 126] l[i] → marks.contains l[i] = false := fun f => by rw [← fIdx_nonneg marks l[i]]; exact decide_eq_false f
            by_cases a : (97 : Int) ≤ l[i].toNat
            · by_cases b : (l[i].toNat : Int) ≤ 122
              · simp only [↓STEP, go_sem, ↓reduceIte, Nat.reduceEqDiff, Nat.reduceLeDiff, Nat.reduceLT, Nat.reduceAdd, Nat.reduceSub, Nat.reduceMul, Int.reduceLT, Int.reduceLE, Int.reduceEq, Int.reduceAdd, Int.reduceSub, Int.reduceMul, Int.reduceNeg, Int.reduceToNat, reduceCtorEq, e14, e13, e0, hlt', hget, a, b, hwr]
                exact good (by simp [nameCh, a, b]) _ (by simp [v_pd]) (by simp [v_pd]) (by simp [v_pd])
              · have d : (48 : Int) ≤ l[i].toNat := by omega
                have e : ¬ (l[i].toNat : Int) ≤ 57 := by omega
                by_cases f : (0 : Int) ≤ fIdx [33, 35, 36, 37, 38, 39, 42, 43, 45, 46, 94, 95, 96, 124, 126] l[i]
                · simp only [↓STEP, go_sem, ↓reduceIte, Nat.reduceEqDiff, Nat.reduceLeDiff, Nat.reduceLT, Nat.reduceAdd, Nat.reduceSub, Nat.reduceMul, Int.reduceLT, Int.reduceLE, Int.reduceEq, Int.reduceAdd, Int.reduceSub, Int.reduceMul, Int.reduceNeg, Int.reduceToNat, reduceCtorEq, hc, hx, e14, e13, e0, hlt', hget, a, b, d, e, f, hwr]
                  exact good (by unfold nameCh; rw [ft f]; simp) _ (by simp [v_pd]) (by simp [v_pd]) (by simp [v_pd])
                · simp only [↓STEP, go_sem, ↓reduceIte, Nat.reduceEqDiff, Nat.reduceLeDiff, Nat.reduceLT, Nat.reduceAdd, Nat.reduceSub, Nat.reduceMul, Int.reduceLT, Int.reduceLE, Int.reduceEq, Int.reduceAdd, Int.reduceSub, Int.reduceMul, Int.reduceNeg, Int.reduceToNat, reduceCtorEq, hc, hx, e14, e13, e0, hlt', hget, a, b, d, e, f, hwr]
                  exact bad (by unfold nameCh; rw [ff f]; simp [b, e])
            · by_cases d : (48 : Int) ≤ l[i].toNat
              · by_cases e : (l[i].toNat : Int) ≤ 57
                · simp only [↓STEP, go_sem, ↓reduceIte, Nat.reduceEqDiff, Nat.reduceLeDiff, Nat.reduceLT, Nat.reduceAdd, Nat.reduceSub, Nat.reduceMul, Int.reduceLT, Int.reduceLE, Int.reduceEq, Int.reduceAdd, Int.reduceSub, Int.reduceMul, Int.reduceNeg, Int.reduceToNat, reduceCtorEq, e14, e13, e0, hlt', hget, a, d, e, hwr]
                  exact good (by simp [nameCh, d, e]) _ (by simp [v_pd]) (by simp [v_pd]) (by simp [v_pd])
                · by_cases f : (0 : Int) ≤ fIdx [33, 35, 36, 37, 38, 39, 42, 43, 45, 46, 94, 95, 96, 124, 126] l[i]
                  · simp only [↓STEP, go_sem, ↓reduceIte, Nat.reduceEqDiff, Nat.reduceLeDiff, Nat.reduceLT, Nat.reduceAdd, Nat.reduceSub, Nat.reduceMul, Int.reduceLT, Int.reduceLE, Int.reduceEq, Int.reduceAdd, Int.reduceSub, Int.reduceMul, Int.reduceNeg, Int.reduceToNat, reduceCtorEq, hc, hx, e14, e13, e0, hlt', hget, a, d, e, f, hwr]
                    exact good (by unfold nameCh; rw [ft f]; simp) _ (by simp [v_pd]) (by simp [v_pd]) (by simp [v_pd])
                  · simp only [↓STEP, go_sem, ↓reduceIte, Nat.reduceEqDiff, Nat.reduceLeDiff, Nat.reduceLT, Nat.reduceAdd, Nat.reduceSub, Nat.reduceMul, Int.reduceLT, Int.reduceLE, Int.reduceEq, Int.reduceAdd, Int.reduceSub, Int.reduceMul, Int.reduceNeg, Int.reduceToNat, reduceCtorEq, hc, hx, e14, e13, e0, hlt', hget, a, d, e, f, hwr]
                    exact bad (by unfold nameCh; rw [ff f]; simp [a, e])
              · by_cases f : (0 : Int) ≤ fIdx [33, 35, 36, 37, 38, 39, 42, 43, 45, 46, 94, 95, 96, 124, 126] l[i]
                · simp only [↓STEP, go_sem, ↓reduceIte, Nat.reduceEqDiff, Nat.reduceLeDiff, Nat.reduceLT, Nat.reduceAdd, Nat.reduceSub, Nat.reduceMul, Int.reduceLT, Int.reduceLE, Int.reduceEq, Int.reduceAdd, Int.reduceSub, Int.reduceMul, Int.reduceNeg, Int.reduceToNat, reduceCtorEq, hc, hx, e14, e13, e0, hlt', hget, a, d, f, hwr]
                  exact good (by unfold nameCh; rw [ft f]; simp) _ (by simp [v_pd]) (by simp [v_pd]) (by simp [v_pd])
                · simp only [↓STEP, go_sem, ↓reduceIte, Nat.reduceEqDiff, Nat.reduceLeDiff, Nat.reduceLT, Nat.reduceAdd, Nat.reduceSub, Nat.reduceMul, Int.reduceLT, Int.reduceLE, Int.reduceEq, Int.reduceAdd, Int.reduceSub, Int.reduceMul, Int.reduceNeg, Int.reduceToNat, reduceCtorEq, hc, hx, e14, e13, e0, hlt', hget, a, d, f, hwr]
                  exact bad (by unfold nameCh; rw [ff f]; simp [a, d])
          · have hlt' : ¬ (i : Int) < (l.length : Int) := by omega
            simp only [↓STEP, go_sem, ↓reduceIte, Nat.reduceEqDiff, Nat.reduceLeDiff, Nat.reduceLT, Nat.reduceAdd, Nat.reduceSub, Nat.reduceMul, Int.reduceLT, Int.reduceLE, Int.reduceEq, Int.reduceAdd, Int.reduceSub, Int.reduceMul, Int.reduceNeg, Int.reduceToNat, reduceCtorEq, e14, e13, e0, hlt']
            refine Abs.eq ?_ rfl
            have : i = l.length := by omega
            rw [this, List.take_length] at hall
            have h2 : decide (l.length ≤ 65536) = true := by simp; omega
            simp [nameB, h2, hall, he]
        · exact ⟨0, rfl, Nat.zero_le _, by simp only [↓STEP, go_sem, ↓reduceIte, Nat.reduceEqDiff, Nat.reduceLeDiff, Nat.reduceLT, Nat.reduceAdd, Nat.reduceSub, Nat.reduceMul, Int.reduceLT, Int.reduceLE, Int.reduceEq, Int.reduceAdd, Int.reduceSub, Int.reduceMul, Int.reduceNeg, Int.reduceToNat, reduceCtorEq], by simp only [↓STEP, go_sem, ↓reduceIte, Nat.reduceEqDiff, Nat.reduceLeDiff, Nat.reduceLT, Nat.reduceAdd, Nat.reduceSub, Nat.reduceMul, Int.reduceLT, Int.reduceLE, Int.reduceEq, Int.reduceAdd, Int.reduceSub, Int.reduceMul, Int.reduceNeg, Int.reduceToNat, reduceCtorEq], by simp only [↓STEP, go_sem, ↓reduceIte, Nat.reduceEqDiff, Nat.reduceLeDiff, Nat.reduceLT, Nat.reduceAdd, Nat.reduceSub, Nat.reduceMul, Int.reduceLT, Int.reduceLE, Int.reduceEq, Int.reduceAdd, Int.reduceSub, Int.reduceMul, Int.reduceNeg, Int.reduceToNat, reduceCtorEq], rfl, by simp⟩
  · cases hg
end Am
