/- The laws of lists: FieldMore. -/
import Derived.Test.YtibmhhdgcbaofaaDoorField12
namespace Am
set_option linter.unusedVariables false
set_option linter.unusedSimpArgs false
set_option maxRecDepth 20000
set_option maxHeartbeats 8000000
variable {pr : Prog}

/-! ### Plain -/
def regB (f : Fd) : Bool := valueB f.v && !preB f.n && plainB f
theorem psF_len : ∀ (fs : List Fd) (m : PM) (reg : Bool) (m' : PM), psF m reg fs = some m' → m.length ≤ m'.length
  | [], m, reg, m', h => by cases h; omega
  | f :: fs, m, reg, m', h => by
    simp only [psF] at h
    split at h
    · cases h
    split at h
    · split at h
      · cases h
      · have := psF_len fs _ _ _ h; rw [List.length_append] at this; omega
    · split at h
      · cases h
      split at h
      · cases h
      split at h
      · cases h
      exact psF_len fs _ _ _ h
theorem psF_regs : ∀ (fs : List Fd) (m : PM) (reg : Bool) (m' : PM), psF m reg fs = some m' → m'.length ≤ m.length → fs.all regB = true
  | [], m, reg, m', h, hl => rfl
  | f :: fs, m, reg, m', h, hl => by
    simp only [psF] at h
    split at h
    · cases h
    rename_i b1
    split at h
    · split at h
      · cases h
      · have := psF_len fs _ _ _ h; rw [List.length_append] at this; simp at this; omega
    · rename_i b2
      split at h
      · cases h
      rename_i b3
      split at h
      · cases h
      rename_i b4
      split at h
      · cases h
      rename_i b5
      rw [List.all_cons, psF_regs fs _ _ _ h hl]
      simp at b1 b2 b3 b4 b5
      simp [regB, plainB, b1, b2, b3, b4, b5]
theorem psF_reg {f : Fd} (h : regB f = true) (m : PM) (reg : Bool) (fs : List Fd) : psF m reg (f :: fs) = psF m true fs := by
  simp only [regB, plainB, Bool.and_eq_true, Bool.not_eq_true'] at h
  obtain ⟨⟨b1, b2⟩, ⟨b3, b4⟩, b5⟩ := h
  simp [psF, b1, b2, b3, b4, b5]
theorem psF_all : ∀ (fs : List Fd) (m : PM) (reg : Bool), fs.all regB = true → psF m reg fs = some m
  | [], m, reg, _ => rfl
  | f :: fs, m, reg, h => by
    simp only [List.all_cons, Bool.and_eq_true] at h
    rw [psF_reg h.1, psF_all fs m true h.2]
theorem psF_app {more : List Fd} (hm : more.all regB = true) : ∀ (fs : List Fd) (m : PM) (reg : Bool), psF m reg (fs ++ more) = psF m reg fs
  | [], m, reg => by rw [List.nil_append, psF_all more m reg hm]; rfl
  | f :: fs, m, reg => by
    simp only [List.cons_append, psF, psF_app hm fs]
theorem psF_twice {f : Fd} (hp : preB f.n = true) : ∀ (fs : List Fd) (m : PM) (reg : Bool), f ∈ fs → (look m f.n).isSome = true → psF m reg fs = none
  | g :: fs, m, reg, h, hl => by
    simp only [psF]
    rcases List.mem_cons.1 h with rfl | h
    · simp [hp, hl]
    · have h1 : ∀ m' reg', (look m' f.n).isSome = true → psF m' reg' fs = none := fun m' reg' hl' => psF_twice hp fs m' reg' h hl'
      split
      · rfl
      split
      · split
        · rfl
        · exact h1 _ _ (by rw [look_app, if_pos hl]; exact hl)
      split
      · rfl
      split
      · rfl
      split
      · rfl
      exact h1 _ _ hl
theorem tell_more {P : PM → Bool} {fs more : List Fd} (h : tellP (fun m => decide (m.length = 0)) more = true) : tellP P (fs ++ more) = tellP P fs := by
  unfold tellP at h
  split at h
  · rename_i m hm
    have := psF_regs more [] false m hm (by simp at h; simp [h])
    unfold tellP
    rw [psF_app this]
  · cases h
theorem tell_twice {P : PM → Bool} {fs : List Fd} {f : Fd} (hf : f ∈ fs) (hp : preB f.n = true) : tellP P (f :: fs) = false := by
  have : psF [] false (f :: fs) = none := by
    simp only [psF, hp, if_true]
    split
    · rfl
    split
    · rfl
    exact psF_twice hp fs _ _ hf (by simp [look])
  unfold tellP
  rw [this]

/-! ### Appends -/
/-- A slice of one's own, full. -/
def OwnSl (h0 h : H) (a : Option (Nat × Nat)) (len cap : Nat) (ex : Bool) : Prop :=
  cap = len ∧ ((a = none ∧ ex = true ∧ len = 0) ∨ ∃ b r rs, a = some (b, r) ∧ h0.nx ≤ b ∧ h.get b = some (.rows 3 rs false))
theorem rseg_of {h : H} {k : Nat} {a : Option (Nat × Nat)} {n : Nat} {rs : List (List V)} (hr : rowsIn h k a n rs) : h.rseg k a n = some rs := by
  obtain ⟨hl, hr⟩ := hr
  unfold H.rseg
  by_cases hn : n = 0
  · subst hn
    rw [if_pos rfl, List.eq_nil_of_length_eq_zero hl]
  · rw [if_neg hn]
    obtain ⟨b, r, all, ro, rfl, hb, hg, hat⟩ := hr.resolve_left hn
    have hlen : r + n ≤ all.length := by
      have := hat (n - 1) rs[n - 1] (by rw [List.getElem?_eq_getElem (by omega)])
      have := (List.getElem?_eq_some_iff.1 this).1
      omega
    have he : (all.drop r).take n = rs := by
      apply List.ext_getElem?
      intro i
      by_cases hi : i < n
      · rw [List.getElem?_take_of_lt hi, List.getElem?_drop]
        rw [hat i rs[i] (by rw [List.getElem?_eq_getElem (by omega)]), List.getElem?_eq_getElem (by omega)]
      · rw [List.getElem?_eq_none (by rw [List.length_take]; omega), List.getElem?_eq_none (by omega)]
    simp only [hg, hlen, he]
    simp
theorem app_ok {h0 h : H} (hk : Kept h0 h) {a p : Option (Nat × Nat)} {len cap n : Nat} {ex : Bool} {fs new : List Fd} (ho : OwnSl h0 h a len cap ex) (hf : readRows Fd.row h 3 a len = some fs) (hn : readRows Fd.row h 3 p n = some new) (hb : len + n ≤ 1000) :
    ∃ a' cap' ex' g, ((h.rseg 3 p n).bind fun new => appRows h 3 40 a len cap ex new) = some (.sl a' (len + n) cap' ex', g) ∧ readRows Fd.row g 3 a' (len + n) = some (fs ++ new) ∧ Kept h0 g ∧ OwnSl h0 g a' (len + n) cap' ex' := by
  have h1 := (readRows_spec hf).1
  have h2 := (readRows_spec hn).1
  have l1 : fs.length = len := by simpa using h1.1
  have l2 : new.length = n := by simpa using h2.1
  have s1 := rseg_of h1
  have s2 := rseg_of h2
  obtain ⟨rfl, ho⟩ := ho
  rw [s2, Option.bind_some]
  unfold appRows
  rw [List.length_map, l2]
  by_cases hz : n = 0
  · subst hz
    have : new = [] := List.eq_nil_of_length_eq_zero l2
    subst this
    rw [if_pos (by omega)]
    exact ⟨a, cap, ex, h, by simp [H.rput], by simpa using hf, hk, rfl, ho⟩
  · rw [if_neg (by omega)]
    have hroom : roomOk (cap + n) 40 = true := by simp [roomOk]; omega
    rw [if_pos hroom, s1, Option.bind_some]
    have hlose : ∃ h', h.loseR 3 a ex = some h' ∧ Kept h0 h' := by
      unfold H.loseR
      by_cases he : ex = true
      · rw [if_pos he]; exact ⟨h, rfl, hk⟩
      · rw [if_neg he]
        rcases ho with ⟨rfl, he', _⟩ | ⟨b, r, rs, rfl, hb0, hg⟩
        · exact absurd he' he
        · simp only [hg, if_true]
          exact ⟨_, rfl, hk.kill hb0⟩
    obtain ⟨h', hl', hk'⟩ := hlose
    rw [hl', Option.bind_some]
    refine ⟨_, _, _, _, rfl, ?_, hk'.push, rfl, .inr ⟨h'.nx, 0, _, rfl, hk'.1, by rw [H.get_push, if_pos rfl]⟩⟩
    refine readRows_eq Fd.row_inj ⟨by rw [List.length_map, List.length_append]; omega, .inr ⟨h'.nx, 0, _, false, rfl, by show h'.nx < h'.nx + 1; omega, by rw [H.get_push, if_pos rfl], ?_⟩⟩ (by omega)
    intro i row hi
    rw [Nat.zero_add, ← List.map_append]; exact hi

theorem readRows_kept' {h g : H} {p : Option (Nat × Nat)} {n : Nat} {fs : List Fd} (hr : readRows Fd.row h 3 p n = some fs) (hk : Kept h g) : readRows Fd.row g 3 p n = some fs := readRows_kept hr hk
abbrev trP : PM → Bool := fun m => decide (m.length = 0)
theorem gTell_at (P : PM → Bool) {h : H} {p : Option (Nat × Nat)} {n cap : Nat} {ex : Bool} {fs : List Fd} (hr : readRows Fd.row h 3 p n = some fs) {B : Bool} (hB : tellP P fs = B) : gTell P [.sl p n cap ex] h = some (.i .i64 (if B = true then 0 else 5), h) := by rw [gTell_eq, hr, ← hB]; rfl
theorem fieldMore_law {kb kt kr ks : Nat} (hb : pr.ext kb = some (xConst (.b true))) (ht : pr.ext kt = some (gTell trP)) (hrq : pr.ext kr = some (gTell reqP)) (hrs : pr.ext ks = some (gTell respP))
    {p q : Option (Nat × Nat)} {cap cap2 : Nat} {ex ex2 : Bool} {fs more : List Fd} {h : H} (hf : readRows Fd.row h 3 p fs.length = some fs) (hm : readRows Fd.row h 3 q more.length = some more) (k : Int) :
    wpF pr (c_isthmuslaw3_FieldMore kb kt kr ks) [.sl p fs.length cap ex, .sl q more.length cap2 ex2, .i .i64 k] h (fun v _ => v = .b true) := by
  have xb := @wpCall_ext pr kb _ hb
  have xt := @wpCall_ext pr kt _ ht
  have xr := @wpCall_ext pr kr _ hrq
  have xs := @wpCall_ext pr ks _ hrs
  unfold wpF c_isthmuslaw3_FieldMore
  refine ⟨by simp, ?_⟩
  by_cases a1 : (100 : Int) < fs.length
  · simp only [↓STEP, go_sem, ↓reduceIte, Nat.reduceEqDiff, Nat.reduceLeDiff, Nat.reduceLT, Nat.reduceAdd, Nat.reduceSub, Nat.reduceMul, Int.reduceLT, Int.reduceLE, Int.reduceEq, Int.reduceAdd, Int.reduceSub, Int.reduceMul, Int.reduceNeg, Int.reduceToNat, reduceCtorEq, xb, xConst_eq', a1]
  by_cases a2 : (100 : Int) < more.length
  · simp only [↓STEP, go_sem, ↓reduceIte, Nat.reduceEqDiff, Nat.reduceLeDiff, Nat.reduceLT, Nat.reduceAdd, Nat.reduceSub, Nat.reduceMul, Int.reduceLT, Int.reduceLE, Int.reduceEq, Int.reduceAdd, Int.reduceSub, Int.reduceMul, Int.reduceNeg, Int.reduceToNat, reduceCtorEq, xb, xConst_eq', a1, a2]
  cases b1 : tellP trP more
  · have e1 := gTell_at (cap := cap2) (ex := ex2) trP hm b1
    simp only [Bool.false_eq_true, if_false] at e1
    simp only [↓STEP, go_sem, ↓reduceIte, Nat.reduceEqDiff, Nat.reduceLeDiff, Nat.reduceLT, Nat.reduceAdd, Nat.reduceSub, Nat.reduceMul, Int.reduceLT, Int.reduceLE, Int.reduceEq, Int.reduceAdd, Int.reduceSub, Int.reduceMul, Int.reduceNeg, Int.reduceToNat, reduceCtorEq, xb, xConst_eq', a1, a2, xt, e1]
  have e1 := gTell_at (cap := cap2) (ex := ex2) trP hm b1
  simp only [if_true] at e1
  obtain ⟨p1, c1, x1, g1, q1, r1, k1, o1⟩ := app_ok (h0 := h) (a := none) (len := 0) (cap := 0) (ex := true) (fs := []) Kept.refl ⟨rfl, .inl ⟨rfl, rfl, rfl⟩⟩ (readRows_eq Fd.row_inj ⟨rfl, .inl rfl⟩ (by decide)) hf (by omega)
  obtain ⟨p2, c2, x2, g2, q2, r2, k2, o2⟩ := app_ok k1 o1 r1 (readRows_kept hm k1) (by omega)
  rw [Nat.zero_add] at q1 q2 r1 r2
  rw [List.nil_append] at r2
  simp only [↓STEP, go_sem, ↓reduceIte, Nat.reduceEqDiff, Nat.reduceLeDiff, Nat.reduceLT, Nat.reduceAdd, Nat.reduceSub, Nat.reduceMul, Int.reduceLT, Int.reduceLE, Int.reduceEq, Int.reduceAdd, Int.reduceSub, Int.reduceMul, Int.reduceNeg, Int.reduceToNat, reduceCtorEq] at q1 q2
  have t1 := tell_more (P := reqP) (fs := fs) b1
  have t2 := tell_more (P := respP) (fs := fs) b1
  have f1 := gTell_at (cap := cap) (ex := ex) reqP hf rfl
  have f2 := gTell_at (cap := cap) (ex := ex) respP hf rfl
  have f3 := gTell_at (cap := c2) (ex := x2) reqP r2 t1
  have f4 := gTell_at (cap := c2) (ex := x2) respP r2 t2
  generalize hR : tellP reqP fs = R at f1 f3
  generalize hS : tellP respP fs = S at f2 f4
  have e : ∀ b : Bool, (b == b) = true := fun b => by simp
  by_cases hRS : R = false ∧ S = false
  · obtain ⟨rfl, rfl⟩ := hRS
    simp only [Bool.false_eq_true, if_false, if_true] at f1 f2 f3 f4
    by_cases c1' : k < 0
    · simp only [↓STEP, go_sem, ↓reduceIte, Nat.reduceEqDiff, Nat.reduceLeDiff, Nat.reduceLT, Nat.reduceAdd, Nat.reduceSub, Nat.reduceMul, Int.reduceLT, Int.reduceLE, Int.reduceEq, Int.reduceAdd, Int.reduceSub, Int.reduceMul, Int.reduceNeg, Int.reduceToNat, reduceCtorEq, xb, xConst_eq', a1, a2, xt, e1, xr, xs, f1, f2, f3, f4, q1, q2, e, Bool.not_true, c1']
    by_cases c2' : (fs.length : Int) ≤ k
    · simp only [↓STEP, go_sem, ↓reduceIte, Nat.reduceEqDiff, Nat.reduceLeDiff, Nat.reduceLT, Nat.reduceAdd, Nat.reduceSub, Nat.reduceMul, Int.reduceLT, Int.reduceLE, Int.reduceEq, Int.reduceAdd, Int.reduceSub, Int.reduceMul, Int.reduceNeg, Int.reduceToNat, reduceCtorEq, xb, xConst_eq', a1, a2, xt, e1, xr, xs, f1, f2, f3, f4, q1, q2, e, Bool.not_true, c1', c2']
    · simp only [↓STEP, go_sem, ↓reduceIte, Nat.reduceEqDiff, Nat.reduceLeDiff, Nat.reduceLT, Nat.reduceAdd, Nat.reduceSub, Nat.reduceMul, Int.reduceLT, Int.reduceLE, Int.reduceEq, Int.reduceAdd, Int.reduceSub, Int.reduceMul, Int.reduceNeg, Int.reduceToNat, reduceCtorEq, xb, xConst_eq', a1, a2, xt, e1, xr, xs, f1, f2, f3, f4, q1, q2, e, Bool.not_true, c1', c2']
  by_cases c1' : k < 0
  · cases R <;> cases S <;> simp only [Bool.false_eq_true, if_false, if_true] at f1 f2 f3 f4 <;> simp only [↓STEP, go_sem, ↓reduceIte, Nat.reduceEqDiff, Nat.reduceLeDiff, Nat.reduceLT, Nat.reduceAdd, Nat.reduceSub, Nat.reduceMul, Int.reduceLT, Int.reduceLE, Int.reduceEq, Int.reduceAdd, Int.reduceSub, Int.reduceMul, Int.reduceNeg, Int.reduceToNat, reduceCtorEq, xb, xConst_eq', a1, a2, xt, e1, xr, xs, f1, f2, f3, f4, q1, q2, e, Bool.not_true, c1']
  by_cases c2' : (fs.length : Int) ≤ k
  · cases R <;> cases S <;> simp only [Bool.false_eq_true, if_false, if_true] at f1 f2 f3 f4 <;> simp only [↓STEP, go_sem, ↓reduceIte, Nat.reduceEqDiff, Nat.reduceLeDiff, Nat.reduceLT, Nat.reduceAdd, Nat.reduceSub, Nat.reduceMul, Int.reduceLT, Int.reduceLE, Int.reduceEq, Int.reduceAdd, Int.reduceSub, Int.reduceMul, Int.reduceNeg, Int.reduceToNat, reduceCtorEq, xb, xConst_eq', a1, a2, xt, e1, xr, xs, f1, f2, f3, f4, q1, q2, e, Bool.not_true, c1', c2']
  obtain ⟨i, rfl⟩ : ∃ i : Nat, k = i := ⟨k.toNat, by omega⟩
  have hi : i < fs.length := by omega
  have hi' : (i : Int) < fs.length := by omega
  obtain ⟨⟨_, hrows⟩, _⟩ := readRows_spec hf
  obtain ⟨bb, r, all, ro, rfl, hbb, hgb, hat⟩ := hrows.resolve_left (by omega)
  have hk2 : g2.get bb = some (.rows 3 all ro) := by rw [k2.2 bb hbb]; exact hgb
  have hrw : all[r + i]? = some [.s fs[i].n, .s fs[i].v, .b fs[i].z] := hat i _ (by rw [List.getElem?_map, List.getElem?_eq_getElem hi]; rfl)
  have hmem : fs[i] ∈ fs := List.getElem_mem hi
  have h0 : ¬ (i : Int) < 0 := by omega
  generalize fs[i] = f at hrw hmem
  cases hn : f.n with
  | nil =>
    rw [hn] at hrw
    cases R <;> cases S <;> simp only [Bool.false_eq_true, if_false, if_true] at f1 f2 f3 f4 <;> simp only [↓STEP, go_sem, ↓reduceIte, Nat.reduceEqDiff, Nat.reduceLeDiff, Nat.reduceLT, Nat.reduceAdd, Nat.reduceSub, Nat.reduceMul, Int.reduceLT, Int.reduceLE, Int.reduceEq, Int.reduceAdd, Int.reduceSub, Int.reduceMul, Int.reduceNeg, Int.reduceToNat, reduceCtorEq, xb, xConst_eq', a1, a2, xt, e1, xr, xs, f1, f2, f3, f4, q1, q2, e, Bool.not_true, c1', c2', hi', hk2, hrw, h0]
  | cons x nm =>
    have hl1 : ¬ ((nm.length + 1 : Nat) : Int) = 0 := by omega
    by_cases hx : (x.toNat : Int) = 58
    · have hx' := eq_true hx
      have hp : preB f.n = true := by
        have : x = 58 := UInt8.toNat_inj.1 (by rw [show (58 : UInt8).toNat = 58 from rfl]; omega)
        rw [hn, this]; simp [preB]
      have hgo : readRows Fd.row (g2.push (.rows 3 [Fd.row f] false)) 3 (some (g2.nx, 0)) 1 = some [f] :=
        readRows_eq Fd.row_inj ⟨rfl, .inr ⟨g2.nx, 0, [Fd.row f], false, rfl, by show g2.nx < g2.nx + 1; omega, by rw [H.get_push, if_pos rfl], fun i row hi => by rw [Nat.zero_add]; exact hi⟩⟩ (by decide)
      have k3 : Kept h (g2.push (.rows 3 [Fd.row f] false)) := k2.push
      obtain ⟨p4, c4, x4, g4, q4, r4, k4, o4⟩ := app_ok (h0 := h) (ex := true) (cap := 1) k3 ⟨rfl, .inr ⟨g2.nx, 0, [Fd.row f], rfl, k2.1, by rw [H.get_push, if_pos rfl]⟩⟩ hgo (readRows_kept hf k3) (by omega)
      have f5 := gTell_at (cap := c4) (ex := x4) reqP r4 (tell_twice hmem hp)
      have f6 := gTell_at (cap := c4) (ex := x4) respP r4 (tell_twice hmem hp)
      simp only [Bool.false_eq_true, if_false] at f5 f6
      have hbn : ¬ bb = g2.nx := by have := k2.1; omega
      have hrf : Fd.row f = [.s (x :: nm), .s f.v, .b f.z] := by rw [Fd.row, hn]
      rw [hrf] at q4
      rw [hn] at hrw
      simp only [↓STEP, go_sem, ↓reduceIte, Nat.reduceEqDiff, Nat.reduceLeDiff, Nat.reduceLT, Nat.reduceAdd, Nat.reduceSub, Nat.reduceMul, Int.reduceLT, Int.reduceLE, Int.reduceEq, Int.reduceAdd, Int.reduceSub, Int.reduceMul, Int.reduceNeg, Int.reduceToNat, reduceCtorEq, hk2, hbn] at q4
      cases R <;> cases S <;> simp only [Bool.false_eq_true, if_false, if_true] at f1 f2 f3 f4 <;> simp only [↓STEP, go_sem, ↓reduceIte, Nat.reduceEqDiff, Nat.reduceLeDiff, Nat.reduceLT, Nat.reduceAdd, Nat.reduceSub, Nat.reduceMul, Int.reduceLT, Int.reduceLE, Int.reduceEq, Int.reduceAdd, Int.reduceSub, Int.reduceMul, Int.reduceNeg, Int.reduceToNat, reduceCtorEq, xb, xConst_eq', a1, a2, xt, e1, xr, xs, f1, f2, f3, f4, q1, q2, e, Bool.not_true, c1', c2', hi', hk2, hrw, h0, hx', hl1, hbn, q4, f5, f6]
      all_goals trace_state
      all_goals sorry
    · rw [hn] at hrw
      cases R <;> cases S <;> simp only [Bool.false_eq_true, if_false, if_true] at f1 f2 f3 f4 <;> simp only [↓STEP, go_sem, ↓reduceIte, Nat.reduceEqDiff, Nat.reduceLeDiff, Nat.reduceLT, Nat.reduceAdd, Nat.reduceSub, Nat.reduceMul, Int.reduceLT, Int.reduceLE, Int.reduceEq, Int.reduceAdd, Int.reduceSub, Int.reduceMul, Int.reduceNeg, Int.reduceToNat, reduceCtorEq, xb, xConst_eq', a1, a2, xt, e1, xr, xs, f1, f2, f3, f4, q1, q2, e, Bool.not_true, c1', c2', hi', hk2, hrw, h0, hx, hl1]
end Am
