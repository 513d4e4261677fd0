/- The laws of lists: FieldTurn, its walk. -/
import Derived.Test.YtmgkdkbmlfciaaaField13
import Derived.Test.YtmgkdkbmlfciaaaField14
namespace Am
set_option linter.unusedVariables false
set_option linter.unusedSimpArgs false
set_option maxRecDepth 20000
set_option maxHeartbeats 8000000
variable {pr : Prog}

theorem fieldTurn_law {kb kt kr ks : Nat} (hb : pr.ext kb = some (xConst (.b true))) (ht : pr.ext kt = some (gTell trP)) (hrq : pr.ext kr = some (gTell reqP)) (hrs : pr.ext ks = some (gTell respP))
    {p : Option (Nat × Nat)} {cap : Nat} {ex : Bool} {fs : List Fd} {h : H} (hf : readRows Fd.row h 3 p fs.length = some fs) (i j : Int) :
    wpF pr (c_isthmuslaw3_FieldTurn kb kr ks kt) [.sl p fs.length cap ex, .i .i64 i, .i .i64 j] h (fun v _ => v = .b true) := by
  have xb := @wpCall_ext pr kb _ hb
  have xt := @wpCall_ext pr kt _ ht
  have xr := @wpCall_ext pr kr _ hrq
  have xs := @wpCall_ext pr ks _ hrs
  unfold wpF c_isthmuslaw3_FieldTurn
  refine ⟨by simp, ?_⟩
  by_cases a1 : i < 0
  · simp (maxSteps := 4000000) only [↓STEP, go_sem, ↓reduceIte, Nat.reduceEqDiff, Nat.reduceLeDiff, Nat.reduceLT, Nat.reduceAdd, Nat.reduceSub, Nat.reduceMul, Int.reduceLT, Int.reduceLE, Int.reduceEq, Int.reduceAdd, Int.reduceSub, Int.reduceMul, Int.reduceNeg, Int.reduceToNat, reduceCtorEq, xb, xConst_eq', a1]
  by_cases a2 : j < 0
  · simp (maxSteps := 4000000) only [↓STEP, go_sem, ↓reduceIte, Nat.reduceEqDiff, Nat.reduceLeDiff, Nat.reduceLT, Nat.reduceAdd, Nat.reduceSub, Nat.reduceMul, Int.reduceLT, Int.reduceLE, Int.reduceEq, Int.reduceAdd, Int.reduceSub, Int.reduceMul, Int.reduceNeg, Int.reduceToNat, reduceCtorEq, xb, xConst_eq', a1, a2]
  by_cases a3 : (fs.length : Int) ≤ i
  · simp (maxSteps := 4000000) only [↓STEP, go_sem, ↓reduceIte, Nat.reduceEqDiff, Nat.reduceLeDiff, Nat.reduceLT, Nat.reduceAdd, Nat.reduceSub, Nat.reduceMul, Int.reduceLT, Int.reduceLE, Int.reduceEq, Int.reduceAdd, Int.reduceSub, Int.reduceMul, Int.reduceNeg, Int.reduceToNat, reduceCtorEq, xb, xConst_eq', a1, a2, a3]
  by_cases a4 : (fs.length : Int) ≤ j
  · simp (maxSteps := 4000000) only [↓STEP, go_sem, ↓reduceIte, Nat.reduceEqDiff, Nat.reduceLeDiff, Nat.reduceLT, Nat.reduceAdd, Nat.reduceSub, Nat.reduceMul, Int.reduceLT, Int.reduceLE, Int.reduceEq, Int.reduceAdd, Int.reduceSub, Int.reduceMul, Int.reduceNeg, Int.reduceToNat, reduceCtorEq, xb, xConst_eq', a1, a2, a3, a4]
  by_cases a5 : (200 : Int) < fs.length
  · simp (maxSteps := 4000000) only [↓STEP, go_sem, ↓reduceIte, Nat.reduceEqDiff, Nat.reduceLeDiff, Nat.reduceLT, Nat.reduceAdd, Nat.reduceSub, Nat.reduceMul, Int.reduceLT, Int.reduceLE, Int.reduceEq, Int.reduceAdd, Int.reduceSub, Int.reduceMul, Int.reduceNeg, Int.reduceToNat, reduceCtorEq, xb, xConst_eq', a1, a2, a3, a4, a5]
  obtain ⟨i, rfl⟩ : ∃ n : Nat, i = n := ⟨i.toNat, by omega⟩
  obtain ⟨j, rfl⟩ : ∃ n : Nat, j = n := ⟨j.toNat, by omega⟩
  have hi : i < fs.length := by omega
  have hj : j < fs.length := by omega
  have hi' : (i : Int) < fs.length := by omega
  have hj' : (j : Int) < fs.length := by omega
  obtain ⟨p1, c1, x1, g1, q1, r1, k1, o1⟩ := app_ok (h0 := h) (a := none) (len := 0) (cap := 0) (ex := true) (fs := []) Kept.refl ⟨rfl, .inl ⟨rfl, rfl, rfl⟩⟩ (readRows_eq Fd.row_inj ⟨rfl, .inl rfl⟩ (by decide)) hf (by omega)
  rw [Nat.zero_add] at q1 r1 o1
  rw [List.nil_append] at r1
  simp only [↓STEP, go_sem, ↓reduceIte, Nat.reduceEqDiff, Nat.reduceLeDiff, Nat.reduceLT, Nat.reduceAdd, Nat.reduceSub, Nat.reduceMul, Int.reduceLT, Int.reduceLE, Int.reduceEq, Int.reduceAdd, Int.reduceSub, Int.reduceMul, Int.reduceNeg, Int.reduceToNat, reduceCtorEq] at q1
  obtain ⟨b1, s1, all1, rfl, hb1, hg1⟩ : ∃ b1 s1 all1, p1 = some (b1, s1) ∧ h.nx ≤ b1 ∧ g1.get b1 = some (.rows 3 all1 false) := by
    rcases o1.2 with ⟨_, _, h0⟩ | ⟨b, r, rs, e1, e2, e3⟩
    · omega
    · exact ⟨b, r, rs, e1, e2, e3⟩
  obtain ⟨⟨_, hrows⟩, _⟩ := readRows_spec hf
  obtain ⟨bb, r, all, ro, rfl, hbb, hgb, hat⟩ := hrows.resolve_left (by omega)
  obtain ⟨⟨_, hrows1⟩, _⟩ := readRows_spec r1
  obtain ⟨b1', s1', all1', ro1', e, hbb1, hgb1, hat1⟩ := hrows1.resolve_left (by omega)
  cases e
  rw [hg1] at hgb1; cases hgb1
  have hk2 : g1.get bb = some (.rows 3 all ro) := by rw [k1.2 bb hbb]; exact hgb
  have hbn : ¬ bb = b1 := by omega
  have hrwi : all[r + i]? = some [.s fs[i].n, .s fs[i].v, .b fs[i].z] := hat i _ (by rw [List.getElem?_map, List.getElem?_eq_getElem hi]; rfl)
  have hrwj : all[r + j]? = some [.s fs[j].n, .s fs[j].v, .b fs[j].z] := hat j _ (by rw [List.getElem?_map, List.getElem?_eq_getElem hj]; rfl)
  have hrwi1 : all1[s1 + i]? = some [.s fs[i].n, .s fs[i].v, .b fs[i].z] := hat1 i _ (by rw [List.getElem?_map, List.getElem?_eq_getElem hi]; rfl)
  have hrwj1 : all1[s1 + j]? = some [.s fs[j].n, .s fs[j].v, .b fs[j].z] := hat1 j _ (by rw [List.getElem?_map, List.getElem?_eq_getElem hj]; rfl)
  have hset : ∃ f' : Fd, (all1.set (s1 + i) (Fd.row fs[j]))[s1 + j]? = some (Fd.row f') := by
    rw [List.getElem?_set]
    by_cases hij : s1 + i = s1 + j
    · have := (List.getElem?_eq_some_iff.1 hrwi1).1
      rw [if_pos hij, if_pos this]
      exact ⟨_, rfl⟩
    · rw [if_neg hij]
      exact ⟨fs[j], hrwj1⟩
  obtain ⟨f', hsetj⟩ := hset
  have hii : fs[i]? = some fs[i] := List.getElem?_eq_getElem hi
  have hjj : fs[j]? = some fs[j] := List.getElem?_eq_getElem hj
  generalize fs[i] = f at hrwi hrwi1 hii
  generalize fs[j] = g at hrwj hrwj1 hsetj hjj
  have r2 := readRows_set r1 hg1 hi g
  have r3 := readRows_set r2 (by rw [H.get_set, if_pos rfl]) hj f
  have k3 : Kept h ((g1.set b1 (.rows 3 (all1.set (s1 + i) (Fd.row g)) false)).set b1 (.rows 3 ((all1.set (s1 + i) (Fd.row g)).set (s1 + j) (Fd.row f)) false)) := (k1.set hb1).set hb1
  have hf3 := readRows_kept hf k3
  simp only [Fd.row] at hsetj
  cases hfn : f.n with
  | nil =>
    rw [hfn] at hrwi hrwi1
    simp (maxSteps := 4000000) only [↓STEP, go_sem, ↓reduceIte, Nat.reduceEqDiff, Nat.reduceLeDiff, Nat.reduceLT, Nat.reduceAdd, Nat.reduceSub, Nat.reduceMul, Int.reduceLT, Int.reduceLE, Int.reduceEq, Int.reduceAdd, Int.reduceSub, Int.reduceMul, Int.reduceNeg, Int.reduceToNat, reduceCtorEq, xb, xConst_eq', a1, a2, a3, a4, a5, q1, hi', hj', hk2, hbn, hg1, hrwi, hrwj, hrwi1, hrwj1, hsetj]
  | cons x nm =>
  cases hgn : g.n with
  | nil =>
    rw [hfn] at hrwi hrwi1
    rw [hgn] at hrwj hrwj1 hsetj
    simp (maxSteps := 4000000) only [↓STEP, go_sem, ↓reduceIte, Nat.reduceEqDiff, Nat.reduceLeDiff, Nat.reduceLT, Nat.reduceAdd, Nat.reduceSub, Nat.reduceMul, Int.reduceLT, Int.reduceLE, Int.reduceEq, Int.reduceAdd, Int.reduceSub, Int.reduceMul, Int.reduceNeg, Int.reduceToNat, reduceCtorEq, xb, xConst_eq', a1, a2, a3, a4, a5, q1, hi', hj', hk2, hbn, hg1, hrwi, hrwj, hrwi1, hrwj1, hsetj]
  | cons y nn =>
  have hl1 : ¬ ((nm.length + 1 : Nat) : Int) = 0 := by omega
  have hl2 : ¬ ((nn.length + 1 : Nat) : Int) = 0 := by omega
  by_cases hx : (x.toNat : Int) = 58
  · have hx' := eq_true hx
    rw [hfn] at hrwi hrwi1
    rw [hgn] at hrwj hrwj1 hsetj
    simp (maxSteps := 4000000) only [↓STEP, go_sem, ↓reduceIte, Nat.reduceEqDiff, Nat.reduceLeDiff, Nat.reduceLT, Nat.reduceAdd, Nat.reduceSub, Nat.reduceMul, Int.reduceLT, Int.reduceLE, Int.reduceEq, Int.reduceAdd, Int.reduceSub, Int.reduceMul, Int.reduceNeg, Int.reduceToNat, reduceCtorEq, xb, xConst_eq', a1, a2, a3, a4, a5, q1, hi', hj', hk2, hbn, hg1, hrwi, hrwj, hrwi1, hrwj1, hsetj, hl1, hl2, hx']
  by_cases hy : (y.toNat : Int) = 58
  · have hy' := eq_true hy
    rw [hfn] at hrwi hrwi1
    rw [hgn] at hrwj hrwj1 hsetj
    simp (maxSteps := 4000000) only [↓STEP, go_sem, ↓reduceIte, Nat.reduceEqDiff, Nat.reduceLeDiff, Nat.reduceLT, Nat.reduceAdd, Nat.reduceSub, Nat.reduceMul, Int.reduceLT, Int.reduceLE, Int.reduceEq, Int.reduceAdd, Int.reduceSub, Int.reduceMul, Int.reduceNeg, Int.reduceToNat, reduceCtorEq, xb, xConst_eq', a1, a2, a3, a4, a5, q1, hi', hj', hk2, hbn, hg1, hrwi, hrwj, hrwi1, hrwj1, hsetj, hl1, hl2, hx, hy']
  have pf : preB f.n = false := by
    rw [hfn]
    have : ¬ x = 58 := fun e => hx (by rw [e]; rfl)
    simp [preB, this]
  have pg : preB g.n = false := by
    rw [hgn]
    have : ¬ y = 58 := fun e => hy (by rw [e]; rfl)
    simp [preB, this]
  have f1 := gTell_at (cap := c1) (ex := x1) reqP r3 (tell_swap hii hjj pf pg)
  have f2 := gTell_at (cap := c1) (ex := x1) respP r3 (tell_swap hii hjj pf pg)
  have f3 := gTell_at (cap := c1) (ex := x1) trP r3 (tell_swap hii hjj pf pg)
  have f4 := gTell_at (cap := cap) (ex := ex) reqP hf3 rfl
  have f5 := gTell_at (cap := cap) (ex := ex) respP hf3 rfl
  have f6 := gTell_at (cap := cap) (ex := ex) trP hf3 rfl
  generalize (if tellP reqP fs = true then (0 : Int) else 5) = v1 at f1 f4
  generalize (if tellP respP fs = true then (0 : Int) else 5) = v2 at f2 f5
  generalize (if tellP trP fs = true then (0 : Int) else 5) = v3 at f3 f6
  simp only [Fd.row, hfn, hgn] at f1 f2 f3 f4 f5 f6
  rw [hfn] at hrwi hrwi1
  rw [hgn] at hrwj hrwj1 hsetj
  simp (maxSteps := 4000000) only [↓STEP, go_sem, ↓reduceIte, Nat.reduceEqDiff, Nat.reduceLeDiff, Nat.reduceLT, Nat.reduceAdd, Nat.reduceSub, Nat.reduceMul, Int.reduceLT, Int.reduceLE, Int.reduceEq, Int.reduceAdd, Int.reduceSub, Int.reduceMul, Int.reduceNeg, Int.reduceToNat, reduceCtorEq, xb, xConst_eq', a1, a2, a3, a4, a5, q1, hi', hj', hk2, hbn, hg1, hrwi, hrwj, hrwi1, hrwj1, hsetj, hl1, hl2, hx, hy, xt, xr, xs, f1, f2, f3, f4, f5, f6]
end Am
