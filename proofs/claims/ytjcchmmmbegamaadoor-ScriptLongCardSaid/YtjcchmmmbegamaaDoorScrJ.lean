/- Texts cut at each place of a byte: the library's Split. -/
import Derived.Test.YtjcchmmmbegamaaDoorScrM
import Derived.Test.YtjcchmmmbegamaaDoorScrX
import Derived.Test.YtjcchmmmbegamaaDoorScrB
import Derived.Test.YtjcchmmmbegamaaDoorField17
import Derived.Test.YtjcchmmmbegamaaDoorCodesAll
namespace Am
set_option linter.unusedVariables false
set_option linter.unusedSimpArgs false
set_option maxRecDepth 20000
set_option maxHeartbeats 8000000
variable {pr : Prog}

def splitF (b : UInt8) : List UInt8 → List (List UInt8)
  | [] => [[]]
  | c :: r => if c = b then [] :: splitF b r else
    match splitF b r with
    | w :: ws => (c :: w) :: ws
    | [] => [[c]]
theorem splitF_ne (b : UInt8) : ∀ l, splitF b l ≠ []
  | [] => by simp [splitF]
  | c :: r => by
    rw [splitF]
    split
    · simp
    · split <;> simp
theorem splitF_len (b : UInt8) : ∀ l, (splitF b l).length = l.count b + 1
  | [] => by simp [splitF]
  | c :: r => by
    have ih := splitF_len b r
    rw [splitF]
    by_cases h : c = b
    · subst h; simp [ih]
    · rw [if_neg h, List.count_cons_of_ne h]
      split
      · rename_i w ws e; rw [e] at ih; simpa using ih
      · rename_i e; exact absurd e (splitF_ne b r)
theorem splitF_join (b : UInt8) : ∀ l, joinS (splitF b l) [b] = l
  | [] => by simp [splitF, joinS]
  | c :: r => by
    have ih := splitF_join b r
    rw [splitF]
    by_cases h : c = b
    · subst h
      rw [if_pos rfl]
      cases e : splitF c r with
      | nil => exact absurd e (splitF_ne c r)
      | cons w ws => rw [e] at ih; simp only [joinS, List.map_cons, List.flatten_cons, List.nil_append] at ih ⊢; rw [List.cons_append, List.nil_append, List.cons_append, ih]
    · rw [if_neg h]
      cases e : splitF b r with
      | nil => exact absurd e (splitF_ne b r)
      | cons w ws => rw [e] at ih; simp only [joinS] at ih ⊢; rw [List.cons_append, ih]
theorem splitF_at (b : UInt8) : ∀ (l : List UInt8), (fIdx l b < 0 → splitF b l = [l]) ∧ (0 ≤ fIdx l b → splitF b l = l.take (fIdx l b).toNat :: splitF b (l.drop ((fIdx l b).toNat + 1)))
  | [] => by simp [fIdx, splitF]
  | c :: r => by
    obtain ⟨h1, h2⟩ := splitF_at b r
    have hf : fIdx (c :: r) b = if c = b then 0 else if fIdx r b < 0 then -1 else fIdx r b + 1 := by
      unfold fIdx
      rw [List.findIdx?_cons]
      by_cases h : c = b
      · subst h; simp
      · have : (c == b) = false := by simpa using h
        rw [this, if_neg h]
        cases r.findIdx? (fun x => x == b) with
        | none => simp
        | some i => simp only [Bool.false_eq_true, if_false, Option.map_some]; rw [if_neg (by omega)]; omega
    rw [hf, splitF]
    by_cases h : c = b
    · subst h; simp
    · rw [if_neg h, if_neg h]
      by_cases h0 : fIdx r b < 0
      · rw [if_pos h0, h1 h0]
        simp
      · rw [if_neg h0]
        have h2 := h2 (by omega)
        refine ⟨fun hh => by omega, fun _ => ?_⟩
        rw [h2]
        obtain ⟨i, hi⟩ : ∃ i : Nat, fIdx r b = (i : Int) := ⟨(fIdx r b).toNat, by omega⟩
        rw [hi]
        simp

def gCnt (ys : List V) (h : H) : Option (V × H) :=
  match ys with
  | [.s l, .s [b]] => some (.i .i64 (l.count b : Nat), h)
  | _ => none
theorem count_okS {k1 k2 k3 : Nat} (hw : pr.ext k2 = some xCount) : OkF pr (c_strings_Count k1 k2 k3) gCnt := by
  intro ys h v h' hg
  unfold gCnt at hg
  split at hg
  case h_2 => cases hg
  rename_i l b
  cases hg
  have hc := @wpCall_ext pr k2 _ hw
  have hx : xCount [.s l, .i .u8 b.toNat] h = some (.i .i64 (l.count b : Nat), h) := by
    unfold xCount
    simp
  unfold wpF c_strings_Count
  refine ⟨by simp, ?_⟩
  simp only [↓STEP, SB, looked, behind, lookOk, AAct.kind, AOp.kind, wpRes, evRes, resV, AOp.ev, bin, binI, binS, shiftI, eqV, un, bound, boundO, fill, fillRows, aggOf, keyEq, findKey, putKey, V.cells, V.flat, byteOf, bytesOf, rdOf, H.wr, H.kOf, splice, isYl, ↓reduceIte, Nat.reduceEqDiff, Nat.reduceLeDiff, Nat.reduceLT, Nat.reduceAdd, Nat.reduceSub, Nat.reduceMul, Int.reduceLT, Int.reduceLE, Int.reduceEq, Int.reduceAdd, Int.reduceSub, Int.reduceMul, Int.reduceNeg, Int.reduceToNat, reduceCtorEq, hc, hx, List.length_singleton]
  exact Abs.refl
theorem index_okS {k : Nat} (hw : pr.ext k = some gIx1) : OkF pr (c_strings_Index k) gIx1 := by
  intro ys h v h' hg
  unfold gIx1 at hg
  split at hg
  case h_2 => cases hg
  rename_i l b
  cases hg
  have hc := @wpCall_ext pr k _ hw
  have hx : gIx1 [.s l, .s [b]] h = some (.i .i64 (fIdx l b), h) := rfl
  unfold wpF c_strings_Index
  refine ⟨by simp, ?_⟩
  simp only [↓STEP, SB, looked, behind, lookOk, AAct.kind, AOp.kind, wpRes, evRes, resV, AOp.ev, bin, binI, binS, shiftI, eqV, un, bound, boundO, fill, fillRows, aggOf, keyEq, findKey, putKey, V.cells, V.flat, byteOf, bytesOf, rdOf, H.wr, H.kOf, splice, isYl, ↓reduceIte, Nat.reduceEqDiff, Nat.reduceLeDiff, Nat.reduceLT, Nat.reduceAdd, Nat.reduceSub, Nat.reduceMul, Int.reduceLT, Int.reduceLE, Int.reduceEq, Int.reduceAdd, Int.reduceSub, Int.reduceMul, Int.reduceNeg, Int.reduceToNat, reduceCtorEq, hc, hx]
  exact Abs.refl
/-- Whether a text ends so. -/
def gSuf (ys : List V) (h : H) : Option (V × H) :=
  match ys with
  | [.s l, .s [b]] => if l.length ≤ 1000000 then some (.b (decide (l.getLast? = some b)), h) else none
  | _ => none

/-- Words laid. -/
structure WordsAt (h0 g : H) (B n : Nat) (ws : List (List UInt8)) : Prop where
  lo : h0.nx ≤ B
  hi : B < g.nx
  len : ws.length = n
  get : g.get B = some (.rows 1 (ws.map sRow) false)
  kept : Kept h0 g
def SpLoop (h0 : H) (b : UInt8) (l : List UInt8) (B n : Nat) (m : Nat) (t : Tm) (g : H) : Prop :=
  ∃ (j : Nat) (done : List (List UInt8)) (rest : List UInt8), m = n - j ∧ done.length = j ∧ splitF b l = done ++ splitF b rest ∧ t.v 10 = .i .i64 (j : Nat) ∧ t.v 0 = .s rest ∧ t.v 1 = .s [b] ∧ t.v 2 = .i .i64 0 ∧ t.v 3 = .i .i64 ((n - 1 : Nat) : Int) ∧ t.v 9 = .sl (some (B, 0)) n n true ∧
    h0.nx ≤ B ∧ B < g.nx ∧ rest.length ≤ l.length ∧ g.get B = some (.rows 1 (done.map sRow ++ List.replicate (n - j) [.s []]) false) ∧ Kept h0 g
theorem genSplit_runs {k ke kc ki : Nat} (hA : pr.ext k = none) (hfn : pr.fn k = some (c_strings_genSplit ke kc ki)) (hc : pr.ext kc = some gCnt) (hi : pr.ext ki = some gIx1) {h : H} {l : List UInt8} {b : UInt8} (hl : l.length ≤ 100000000) :
    Runs pr (.fn k) [.s l, .s [b], .i .i64 0, .i .i64 (-1)] h (fun v g => ∃ B n, v = .sl (some (B, 0)) n n true ∧ WordsAt h g B n (splitF b l)) := by
  refine runs_of_wpF hA hfn ?_
  unfold wpF c_strings_genSplit
  refine ⟨by simp, ?_⟩
  have hc1 := @wpCall_ext pr kc gCnt hc
  have hc2 := @wpCall_ext pr ki gIx1 hi
  have x1 : ∀ g, gCnt [.s l, .s [b]] g = some (.i .i64 (l.count b : Nat), g) := fun g => rfl
  have x2 : ∀ r g, gIx1 [.s r, .s [b]] g = some (.i .i64 (fIdx r b), g) := fun r g => rfl
  have hcl : l.count b ≤ l.length := List.count_le_length
  have w1 : Go.IntKind.wrap .i64 (((l.count b : Nat) : Int) + 1) = ((l.count b + 1 : Nat) : Int) := wrap_i64 (by omega) (by omega)
  have w2 : Go.IntKind.wrap .i64 ((l.length : Int) + 1) = ((l.length + 1 : Nat) : Int) := wrap_i64 (by omega) (by omega)
  have w3 : Go.IntKind.wrap .i64 (((l.count b + 1 : Nat) : Int) - 1) = ((l.count b + 1 - 1 : Nat) : Int) := by rw [wrap_i64 (by omega) (by omega)]; omega
  have hnlt : ¬ ((l.length + 1 : Nat) : Int) < ((l.count b + 1 : Nat) : Int) := by omega
  have hsl := splitF_len b l
  generalize hn : l.count b + 1 = n at *
  have hb1 : 16 * n ≤ 140737488355328 := by omega
  have hmin : minV (fun x y => if y < x then y else x) (.i .i64 (n : Int)) [.i .i64 ((l.length + 1 : Nat) : Int)] = some (.i .i64 (n : Int)) := by
    simp only [minV, if_true]; rw [if_neg hnlt]
  simp only [↓STEP, SB, looked, behind, lookOk, AAct.kind, AOp.kind, wpRes, evRes, resV, AOp.ev, bin, binI, binS, shiftI, eqV, un, bound, boundO, fill, fillRows, aggOf, keyEq, findKey, putKey, V.cells, V.flat, byteOf, bytesOf, rdOf, H.wr, H.kOf, splice, isYl, ↓reduceIte, Nat.reduceEqDiff, Nat.reduceLeDiff, Nat.reduceLT, Nat.reduceAdd, Nat.reduceSub, Nat.reduceMul, Int.reduceLT, Int.reduceLE, Int.reduceEq, Int.reduceAdd, Int.reduceSub, Int.reduceMul, Int.reduceNeg, Int.reduceToNat, reduceCtorEq, hc1, x1, w1, w2, hmin, w3, Int.toNat_natCast, hb1, Int.le_refl]
  refine wpA_loop_inv (SpLoop h b l h.nx n) ?_ (m := n) ?_
  · rintro m t g ⟨j, done, rest, rfl, hdl, hsp, e10, e0, e1, e2, e3, e9, hB, hBg, hrl, hgB, hk⟩
    have hcnt : j + (splitF b rest).length = n := by
      have := congrArg List.length hsp
      rw [List.length_append, hdl] at this
      omega
    obtain ⟨s1, s2⟩ := splitF_at b rest
    have hjn : j < n := by
      have := List.length_pos_iff.2 (splitF_ne b rest)
      omega
    have hat : ∀ w : List UInt8, (done.map sRow ++ List.replicate (n - j) [V.s []]).set j [V.s w] = (done ++ [w]).map sRow ++ List.replicate (n - (j + 1)) [V.s []] := fun w => by
      rw [List.set_append_right _ _ (by rw [List.length_map]; omega), List.length_map, hdl, Nat.sub_self]
      obtain ⟨q, hq⟩ : ∃ q, n - j = q + 1 := ⟨n - j - 1, by omega⟩
      rw [hq, show n - (j + 1) = q by omega, List.replicate_succ, List.set_cons_zero, List.map_append, List.append_assoc]
      rfl
    have hget : (done.map sRow ++ List.replicate (n - j) [V.s []])[j]? = some [.s []] := by
      rw [List.getElem?_append_right (by rw [List.length_map]; omega), List.length_map, hdl, Nat.sub_self]
      obtain ⟨q, hq⟩ : ∃ q, n - j = q + 1 := ⟨n - j - 1, by omega⟩
      rw [hq]; rfl
    generalize done.map sRow ++ List.replicate (n - j) [V.s []] = old at *
    have hjn' : (j : Int) < (n : Int) := by omega
    have wj : Go.IntKind.wrap .i64 ((j : Int) + 1) = ((j + 1 : Nat) : Int) := wrap_i64 (by omega) (by omega)
    have hlast : ∀ w : List UInt8, n = j + 1 → (done ++ [w]).map sRow ++ List.replicate (n - (j + 1)) [V.s []] = (done ++ [w]).map sRow := fun w hw => by
      rw [hw, Nat.sub_self, List.replicate_zero, List.append_nil]
    by_cases hlt : (j : Int) < ((n - 1 : Nat) : Int)
    · by_cases hm : fIdx rest b < 0
      · have := s1 hm
        rw [this] at hcnt
        simp at hcnt
        omega
      · obtain ⟨i, hi'⟩ : ∃ i : Nat, fIdx rest b = (i : Int) := ⟨(fIdx rest b).toNat, by omega⟩
        have hil := fIdx_lt rest b (by omega)
        have s2 := s2 (by omega)
        rw [hi', Int.toNat_natCast] at s2
        rw [hi'] at hil
        have hm' : ¬ (i : Int) < 0 := by omega
        have v1 : Go.IntKind.wrap .i64 ((i : Int) + 0) = (i : Int) := wrap_i64 (by omega) (by omega)
        have v2 : Go.IntKind.wrap .i64 ((i : Int) + 1) = ((i + 1 : Nat) : Int) := wrap_i64 (by omega) (by omega)
        have u1 : ((i : Nat) : Int) ≤ (rest.length : Int) := by omega
        have u2 : ((i + 1 : Nat) : Int) ≤ (rest.length : Int) := by omega
        simp only [↓STEP, SB, looked, behind, lookOk, AAct.kind, AOp.kind, wpRes, evRes, resV, AOp.ev, bin, binI, binS, shiftI, eqV, un, bound, boundO, fill, fillRows, aggOf, keyEq, findKey, putKey, V.cells, V.flat, byteOf, bytesOf, rdOf, H.wr, H.kOf, splice, isYl, ↓reduceIte, Nat.reduceEqDiff, Nat.reduceLeDiff, Nat.reduceLT, Nat.reduceAdd, Nat.reduceSub, Nat.reduceMul, Int.reduceLT, Int.reduceLE, Int.reduceEq, Int.reduceAdd, Int.reduceSub, Int.reduceMul, Int.reduceNeg, Int.reduceToNat, reduceCtorEq, e10, e0, e1, e2, e3, e9, hlt, hc2, x2, hi', hm', v1, v2, u1, u2, hgB, hjn', hget, hat, wj, List.length_singleton, List.length_cons, List.length_nil]
        exact ⟨_, by omega, j + 1, done ++ [rest.take i], rest.drop (i + 1), rfl, by simp [hdl], by rw [hsp, s2, List.append_assoc]; rfl, by simp [v_pd, v_pd0], by simp [v_pd, v_pd0], by simp [v_pd, v_pd0, e1], by simp [v_pd, v_pd0, e2], by simp [v_pd, v_pd0, e3], by simp [v_pd, v_pd0, e9], hB, hBg, by rw [List.length_drop]; omega, by rw [H.get_set, if_pos rfl], hk.set (by omega)⟩
    · have hnj : n = j + 1 := by omega
      have hm : fIdx rest b < 0 := by
        refine Int.not_le.1 fun hh => ?_
        have := s2 hh
        rw [this] at hcnt
        have := List.length_pos_iff.2 (splitF_ne b (rest.drop ((fIdx rest b).toNat + 1)))
        simp at hcnt
        omega
      rw [s1 hm] at hsp
      have hj1 : ((j + 1 : Nat) : Int) ≤ (n : Int) := by omega
      simp only [↓STEP, SB, looked, behind, lookOk, AAct.kind, AOp.kind, wpRes, evRes, resV, AOp.ev, bin, binI, binS, shiftI, eqV, un, bound, boundO, fill, fillRows, aggOf, keyEq, findKey, putKey, V.cells, V.flat, byteOf, bytesOf, rdOf, H.wr, H.kOf, splice, isYl, ↓reduceIte, Nat.reduceEqDiff, Nat.reduceLeDiff, Nat.reduceLT, Nat.reduceAdd, Nat.reduceSub, Nat.reduceMul, Int.reduceLT, Int.reduceLE, Int.reduceEq, Int.reduceAdd, Int.reduceSub, Int.reduceMul, Int.reduceNeg, Int.reduceToNat, reduceCtorEq, e10, e0, e1, e2, e3, e9, hlt, hgB, hjn', hget, hat, wj, hj1]
      refine ⟨h.nx, n, by simp [hnj], hB, hBg, by rw [splitF_len, hn], ?_, hk.set (by omega)⟩
      rw [H.get_set, if_pos rfl, hlast rest hnj, hsp]
  · exact ⟨0, [], l, rfl, rfl, rfl, by simp [v_pd, v_pd0], by simp [v_pd, v_pd0, v_args_cons], by simp [v_pd, v_pd0, v_args_cons], by simp [v_pd, v_pd0, v_args_cons], by simp [v_pd, v_pd0], by simp [v_pd, v_pd0], Nat.le_refl _, Nat.lt_succ_self _, Nat.le_refl _, by rw [H.get_push, if_pos rfl]; simp, by (repeat (first | exact Kept.refl | apply Kept.push | refine Kept.kill ?_ (by omega) | refine Kept.set ?_ (by omega)))⟩
end Am
