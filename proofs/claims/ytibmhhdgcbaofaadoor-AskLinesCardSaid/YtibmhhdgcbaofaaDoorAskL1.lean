/- The whole lines of bytes, as the document goes over them. -/
import Derived.Test.YtibmhhdgcbaofaaDoorBs
import Derived.Test.YtibmhhdgcbaofaaDoorAmIndex
import Derived.Test.YtibmhhdgcbaofaaDoorAsk1
import Derived.Test.YtibmhhdgcbaofaaDoorField17
import Derived.Test.YtibmhhdgcbaofaaDoorCodesAsk3
import Derived.Lib.IndexMore
namespace Am
set_option linter.unusedVariables false
set_option linter.unusedSimpArgs false
set_option maxRecDepth 20000
set_option maxHeartbeats 4000000
variable {pr : Prog}

def crlf : List UInt8 := [13, 10]
def linesG : Nat → List UInt8 → List (List UInt8) × Nat × Bool
  | 0, _ => ([], 0, false)
  | f + 1, s =>
    if 0 ≤ fIdxS s crlf then
      if fIdxS s crlf = 0 then ([[]], 2, true)
      else (s.take (fIdxS s crlf).toNat :: (linesG f (s.drop ((fIdxS s crlf).toNat + 2))).1, (fIdxS s crlf).toNat + 2 + (linesG f (s.drop ((fIdxS s crlf).toNat + 2))).2.1, (linesG f (s.drop ((fIdxS s crlf).toNat + 2))).2.2)
    else ([], 0, false)
def linesR (s : List UInt8) : List (List UInt8) × Nat × Bool := linesG (s.length + 1) s
theorem fIdxS_room (s : List UInt8) (sub : List UInt8) (h : 0 ≤ fIdxS s sub) : fIdxS s sub + sub.length ≤ s.length := by
  rw [fIdxS_eq] at h ⊢; exact Go.Lib.index_room s sub h
theorem linesG_more : ∀ (f : Nat) (s : List UInt8), s.length < f → linesG f s = linesG (s.length + 1) s := by
  intro f
  induction f using Nat.strongRecOn with
  | ind f ih =>
    intro s hs
    cases f with
    | zero => omega
    | succ f =>
      unfold linesG
      split
      · rename_i h0
        have hr := fIdxS_room s crlf h0
        have hc : crlf.length = 2 := rfl
        split
        · rfl
        · have hlt : (s.drop ((fIdxS s crlf).toNat + 2)).length < s.length := by rw [List.length_drop]; omega
          rw [ih f (by omega) _ (by omega)]
          by_cases he : s.length = f
          · rw [he] at hlt; rw [he, ih f (by omega) _ hlt]
          · rw [ih s.length (by omega) _ hlt]
      · rfl
theorem linesR_none {s : List UInt8} (h : ¬ 0 ≤ fIdxS s crlf) : linesR s = ([], 0, false) := by
  unfold linesR linesG; rw [if_neg h]
theorem linesR_zero {s : List UInt8} (h : fIdxS s crlf = 0) : linesR s = ([[]], 2, true) := by
  unfold linesR linesG; rw [if_pos (by omega), if_pos h]
theorem linesR_cons {s : List UInt8} {i : Nat} (h : fIdxS s crlf = i) (hi : i ≠ 0) : linesR s = (s.take i :: (linesR (s.drop (i + 2))).1, i + 2 + (linesR (s.drop (i + 2))).2.1, (linesR (s.drop (i + 2))).2.2) := by
  have hr := fIdxS_room s crlf (by omega)
  have hc : crlf.length = 2 := rfl
  unfold linesR
  rw [linesG]
  rw [if_pos (by omega), if_neg (by omega), h]
  simp only [Int.toNat_natCast]
  have hlt : (s.drop (i + 2)).length < s.length := by rw [List.length_drop]; omega
  rw [linesG_more s.length _ hlt]
theorem occ_crlf {s : List UInt8} {i : Nat} : Go.Lib.occAt s crlf i = true ↔ (s[i]? = some 13 ∧ s[i + 1]? = some 10) := by
  unfold Go.Lib.occAt crlf
  have h0 : (s.drop i)[0]? = s[i]? := by rw [List.getElem?_drop]; rfl
  have h1 : (s.drop i)[1]? = s[i + 1]? := by rw [List.getElem?_drop]
  rw [← h0, ← h1]
  match s.drop i with
  | [] => simp [List.isPrefixOf]
  | [x] => simp [List.isPrefixOf]
  | x :: y :: r =>
    simp [List.isPrefixOf]
    exact ⟨fun h => ⟨h.1.symm, h.2.symm⟩, fun h => ⟨h.1.symm, h.2.symm⟩⟩
theorem fIdx_crlf {s : List UInt8} {i : Nat} (h1 : s[i]? = some 13) (h2 : s[i + 1]? = some 10) (hn : ∀ j, j < i → ¬ (s[j]? = some 13 ∧ s[j + 1]? = some 10)) : fIdxS s crlf = i := by
  rw [fIdxS_eq]
  have hlt : i < s.length := (List.getElem?_eq_some_iff.1 h1).1
  refine Go.Lib.index_first (by omega) (occ_crlf.2 ⟨h1, h2⟩) fun j hj => ?_
  rw [Bool.eq_false_iff]
  exact fun hx => hn j hj (occ_crlf.1 hx)
theorem fIdx_crlf_none {s : List UInt8} (hn : ∀ j : Nat, ¬ (s[j]? = some (13 : UInt8) ∧ s[j + 1]? = some (10 : UInt8))) : fIdxS s crlf = -1 := by
  rw [fIdxS_eq]
  refine Go.Lib.index_none fun j hj => ?_
  rw [Bool.eq_false_iff]
  exact fun hx => hn j (occ_crlf.1 hx)
theorem linesR_len : ∀ (n : Nat) (s : List UInt8), s.length ≤ n → (linesR s).1.length ≤ s.length ∧ (linesR s).2.1 ≤ s.length ∧ ∀ l ∈ (linesR s).1, l.length ≤ s.length := by
  intro n
  induction n with
  | zero =>
    intro s hs
    have : s = [] := List.eq_nil_of_length_eq_zero (by omega)
    subst this
    have h : linesR [] = ([], 0, false) := linesR_none (by decide)
    rw [h]; exact ⟨Nat.le_refl _, Nat.le_refl _, fun l hl => by cases hl⟩
  | succ n ih =>
    intro s hs
    have hc : crlf.length = 2 := rfl
    by_cases h0 : 0 ≤ fIdxS s crlf
    · have hr := fIdxS_room s crlf h0
      obtain ⟨i, hi⟩ : ∃ i : Nat, fIdxS s crlf = i := ⟨(fIdxS s crlf).toNat, by omega⟩
      by_cases hz : i = 0
      · rw [linesR_zero (by omega)]
        refine ⟨by simp; omega, by simp; omega, fun l hl => ?_⟩
        simp only [List.mem_singleton] at hl
        subst hl; exact Nat.zero_le _
      · rw [linesR_cons hi hz]
        have hlen : (s.drop (i + 2)).length = s.length - (i + 2) := List.length_drop
        obtain ⟨a, b, c⟩ := ih (s.drop (i + 2)) (by omega)
        refine ⟨by simp only [List.length_cons]; omega, by simp only; omega, fun l hl => ?_⟩
        rcases List.mem_cons.1 hl with rfl | hl
        · rw [List.length_take]; omega
        · have := c l hl; omega
    · rw [linesR_none h0]; exact ⟨Nat.zero_le _, Nat.zero_le _, fun l hl => by cases hl⟩

def gLines18 (ys : List V) (h : H) : Option (V × H) :=
  match ys with
  | [.sl a n c ex] => if n ≤ c ∧ n ≤ 1000000 then (rdB h a n).bind fun l => some (outVR h 1 ((linesR l).1.map sRow) [.i .i64 ((linesR l).2.1 : Nat), .b (linesR l).2.2]) else none
  | _ => none

def LinLoop18 (h : H) (l : List UInt8) (x : V) (m : Nat) (t : Tm) (g : H) : Prop :=
  ∃ (i frm : Nat) (out : List (List UInt8)) (a : Option (Nat × Nat)) (n : Nat) (ex : Bool), m = l.length - i ∧ i ≤ l.length ∧ frm ≤ l.length ∧ t.v 7 = .i .i64 (i : Nat) ∧ t.v 6 = .i .i64 (frm : Nat) ∧ t.v 0 = x ∧ t.v 5 = .sl a n n ex ∧
    OutR h g 1 a n ex (out.map sRow) ∧ out.length ≤ frm ∧ linesR l = (out ++ (linesR (l.drop frm)).1, frm + (linesR (l.drop frm)).2.1, (linesR (l.drop frm)).2.2) ∧
    (∀ j, frm ≤ j → j < i → ¬ (l[j]? = some 13 ∧ l[j + 1]? = some 10))

theorem sRows_plain (ls : List (List UInt8)) : (Blk.rows 1 (ls.map sRow) false).plain = true := by
  simp [Blk.plain, sRow, V.plains, V.plain]

theorem u8_lit {x y : UInt8} (h : x.toNat = y.toNat) : x = y := UInt8.toNat_inj.1 h

theorem lines18_ok : OkF pr c_isthmusref18_Lines gLines18 := by
  intro ys h v h' hg
  unfold gLines18 at hg
  split at hg
  case h_2 => cases hg
  rename_i a0 n0 c0 ex0
  split at hg
  case isFalse => cases hg
  rename_i hbig
  obtain ⟨hc0, hbig⟩ := hbig
  obtain ⟨l, hl, hg⟩ := Option.bind_eq_some_iff.1 hg
  have hlen := rdB_len hl
  have hv := Option.some.inj hg
  rw [show v = (outVR h 1 ((linesR l).1.map sRow) [.i .i64 ((linesR l).2.1 : Nat), .b (linesR l).2.2]).1 from by rw [hv], show h' = (outVR h 1 ((linesR l).1.map sRow) [.i .i64 ((linesR l).2.1 : Nat), .b (linesR l).2.2]).2 from by rw [hv]]
  unfold wpF c_isthmusref18_Lines
  refine ⟨by simp, ?_⟩
  simp only [↓STEP, wpGot_some, andD_true, looked, behind, lookOk, AAct.kind, AOp.kind, ble_same, ble_add, wpRes, evRes, resV, AOp.ev, v_pd, v_pd0, v_args_cons, v_args_nil, ev_t, ev_c, ev_fn, bin, binI, binS, shiftI, eqV, un, bound, boundO, fill, fillRows, aggOf, keyEq, findKey, putKey, V.cells, V.flat, byteOf, bytesOf, rdOf, rd_of, H.wr, H.kOf, splice, isYl, H.get_push, H.get_set, H.get_kill, nx_push, nx_set, nx_kill, Option.bind_some, Option.bind_none, Option.map_some, Option.map_none, Option.getD_some, Option.getD_none, List.length_cons, List.length_nil, List.take_succ_cons, List.take_zero, List.take_nil, List.drop_succ_cons, List.drop_zero, List.drop_nil, List.nil_append, List.append_nil, List.cons_append, List.getElem?_cons_zero, List.getElem?_cons_succ, List.getElem?_nil, List.map_cons, List.map_nil, List.all_cons, List.all_nil, List.set_cons_zero, List.set_cons_succ, List.replicate_succ, List.replicate_zero, V.beq_refl, ge_iff_le, gt_iff_lt, decide_true, decide_false, Bool.not_true, Bool.not_false, Bool.true_and, Bool.false_and, Bool.and_true, Bool.and_false, Bool.or_true, Bool.true_or, Bool.or_false, Bool.false_or, Bool.not_not, not_true_eq_false, not_false_eq_true, Bool.false_eq_true, Bool.true_eq_false, or_false, false_or, or_true, true_or, or_self, false_and, and_false, ne_eq, true_and, and_true, and_self, if_true, if_false, ite_true, ite_false, decide_eq_true_eq, decide_eq_false_iff_not, V.b.injEq, Option.some.injEq, Int.cast_ofNat_Int, Int.toNat_natCast, Int.natCast_nonneg, Int.lt_irrefl, Int.toNat_zero, List.isEmpty_nil, Nat.left_eq_add, Nat.add_eq_left, Nat.add_assoc, Nat.add_left_cancel_iff, Nat.add_eq_zero_iff, Nat.le_add_right, Nat.add_zero, Nat.zero_add, exists_eq_left', exists_eq_left, ↓reduceIte, Nat.reduceEqDiff, Nat.reduceLeDiff, Nat.reduceLT, Nat.reduceAdd, Nat.reduceSub, Nat.reduceMul, Int.reduceLT, Int.reduceLE, Int.reduceEq, Int.reduceAdd, Int.reduceSub, Int.reduceMul, Int.reduceNeg, Int.reduceToNat, reduceCtorEq]
  refine wpA_loop_inv (LinLoop18 h l (.sl a0 n0 c0 ex0)) ?_ (m := l.length) ?_
  · rintro m t g ⟨i, frm, out, a, n, ex, rfl, hi, hfl, e7, e6, e0, e5, o, hol, hrel, hno⟩
    have hw1 : Go.IntKind.wrap .i64 ((i : Int) + 1) = (i : Int) + 1 := wrap_i64 (by omega) (by omega)
    have hw2 : Go.IntKind.wrap .i64 ((i : Int) + 2) = (i : Int) + 2 := wrap_i64 (by omega) (by omega)
    by_cases hlt : (i : Int) + 1 < n0
    · have hi1 : i < l.length := by omega
      have hi2 : i + 1 < l.length := by omega
      have hi0 : (i : Int) < n0 := by omega
      obtain ⟨b, r, bs, ro, rfl, hgt, hle, hl2, hat⟩ := bseg_open (rdB_bseg (rdB_kept hl o.kept)) (by omega)
      have q1 : bs[r + i]? = some l[i] := (hat i (by omega)).trans (List.getElem?_eq_getElem hi1)
      have q2 : bs[r + (i + 1)]? = some l[i + 1] := (hat (i + 1) (by omega)).trans (List.getElem?_eq_getElem hi2)
      have t1 : ((i : Int) + 1).toNat = i + 1 := by omega
      have p1 : (0 : Int) ≤ (i : Int) + 1 := by omega
      have more : (¬ (l[i]? = some 13 ∧ l[i + 1]? = some 10) ∨ i < frm) → ∀ (t' : Tm) (g' : H), t'.v 7 = .i .i64 ((i : Int) + 1) → t'.v 6 = t.v 6 → t'.v 0 = t.v 0 → t'.v 5 = t.v 5 → g' = g → ∃ m', m' < l.length - i ∧ LinLoop18 h l (.sl (some (b, r)) n0 c0 ex0) m' t' g' := by
        rintro hx t' g' z1 z2 z3 z4 rfl
        refine ⟨_, by omega, i + 1, frm, out, a, n, ex, rfl, by omega, hfl, by rw [z1]; rfl, by rw [z2, e6], by rw [z3, e0], by rw [z4, e5], o, hol, hrel, fun j h1 h2 => ?_⟩
        by_cases hj : j = i
        · subst hj
          rcases hx with hx | hx
          · exact hx
          · omega
        · exact hno j h1 (by omega)
      have k1 : (l[i]? = some 13) ↔ l[i] = 13 := by rw [List.getElem?_eq_getElem hi1]; simp
      have k2 : (l[i + 1]? = some 10) ↔ l[i + 1] = 10 := by rw [List.getElem?_eq_getElem hi2]; simp
      by_cases c1 : ((l[i].toNat : Nat) : Int) = 13
      · have c1' := eq_true c1
        have d1 : l[i] = 13 := u8_lit (by show _ = 13; omega) 
        by_cases c2 : ((l[i + 1].toNat : Nat) : Int) = 10
        · have c2' := eq_true c2
          have d2 : l[i + 1] = 10 := u8_lit (by show _ = 10; omega)
          by_cases c3 : (i : Int) < frm
          · simp only [↓STEP, wpGot_some, andD_true, looked, behind, lookOk, AAct.kind, AOp.kind, ble_same, ble_add, wpRes, evRes, resV, AOp.ev, v_pd, v_pd0, v_args_cons, v_args_nil, ev_t, ev_c, ev_fn, bin, binI, binS, shiftI, eqV, un, bound, boundO, fill, fillRows, aggOf, keyEq, findKey, putKey, V.cells, V.flat, byteOf, bytesOf, rdOf, rd_of, H.wr, H.kOf, splice, isYl, H.get_push, H.get_set, H.get_kill, nx_push, nx_set, nx_kill, Option.bind_some, Option.bind_none, Option.map_some, Option.map_none, Option.getD_some, Option.getD_none, List.length_cons, List.length_nil, List.take_succ_cons, List.take_zero, List.take_nil, List.drop_succ_cons, List.drop_zero, List.drop_nil, List.nil_append, List.append_nil, List.cons_append, List.getElem?_cons_zero, List.getElem?_cons_succ, List.getElem?_nil, List.map_cons, List.map_nil, List.all_cons, List.all_nil, List.set_cons_zero, List.set_cons_succ, List.replicate_succ, List.replicate_zero, V.beq_refl, ge_iff_le, gt_iff_lt, decide_true, decide_false, Bool.not_true, Bool.not_false, Bool.true_and, Bool.false_and, Bool.and_true, Bool.and_false, Bool.or_true, Bool.true_or, Bool.or_false, Bool.false_or, Bool.not_not, not_true_eq_false, not_false_eq_true, Bool.false_eq_true, Bool.true_eq_false, or_false, false_or, or_true, true_or, or_self, false_and, and_false, ne_eq, true_and, and_true, and_self, if_true, if_false, ite_true, ite_false, decide_eq_true_eq, decide_eq_false_iff_not, V.b.injEq, Option.some.injEq, Int.cast_ofNat_Int, Int.toNat_natCast, Int.natCast_nonneg, Int.lt_irrefl, Int.toNat_zero, List.isEmpty_nil, Nat.left_eq_add, Nat.add_eq_left, Nat.add_assoc, Nat.add_left_cancel_iff, Nat.add_eq_zero_iff, Nat.le_add_right, Nat.add_zero, Nat.zero_add, exists_eq_left', exists_eq_left, ↓reduceIte, Nat.reduceEqDiff, Nat.reduceLeDiff, Nat.reduceLT, Nat.reduceAdd, Nat.reduceSub, Nat.reduceMul, Int.reduceLT, Int.reduceLE, Int.reduceEq, Int.reduceAdd, Int.reduceSub, Int.reduceMul, Int.reduceNeg, Int.reduceToNat, reduceCtorEq, e7, e6, e0, e5, hw1, hlt, hi0, hgt, q1, q2, t1, p1, c1', c2', c3]
            exact more (.inr (by omega)) _ _ (by simp [v_pd]) (by simp [v_pd, e6]) (by simp [v_pd, e0]) (by simp [v_pd, e5]) rfl
          · have hfi : frm ≤ i := by omega
            have hfi' : (frm : Int) ≤ i := by omega
            have hic : (i : Int) ≤ c0 := by omega
            have hix : fIdxS (l.drop frm) crlf = ((i - frm : Nat) : Int) := fIdx_crlf (by rw [List.getElem?_drop, show frm + (i - frm) = i by omega]; exact k1.2 d1) (by rw [List.getElem?_drop, show frm + (i - frm + 1) = i + 1 by omega]; exact k2.2 d2)
              fun j hj => by rw [List.getElem?_drop, List.getElem?_drop, show frm + (j + 1) = frm + j + 1 by omega]; exact hno _ (by omega) (by omega)
            have hseg : g.bseg (some (b, r + frm)) (i - frm) = some ((l.drop frm).take (i - frm)) := bseg_take (bseg_from (rdB_bseg (rdB_kept hl o.kept)) (by omega)) (by omega)
            obtain ⟨b', g', e1, o'⟩ := o.app1 (.rows 1 [[.s ((l.drop frm).take (i - frm))]] false) 16 [.s ((l.drop frm).take (i - frm))] (by decide) (by decide) (by have := o.len; rw [List.length_map] at this; omega)
            have om : out.map sRow ++ [[V.s ((l.drop frm).take (i - frm))]] = (out ++ [(l.drop frm).take (i - frm)]).map sRow := by rw [List.map_append]; rfl
            rw [om] at o'
            by_cases c4 : (i : Int) = frm
            · have c4' := eq_true c4
              have hif : i = frm := by omega
              simp only [↓STEP, wpGot_some, andD_true, looked, behind, lookOk, AAct.kind, AOp.kind, ble_same, ble_add, wpRes, evRes, resV, AOp.ev, v_pd, v_pd0, v_args_cons, v_args_nil, ev_t, ev_c, ev_fn, bin, binI, binS, shiftI, eqV, un, bound, boundO, fill, fillRows, aggOf, keyEq, findKey, putKey, V.cells, V.flat, byteOf, bytesOf, rdOf, rd_of, H.wr, H.kOf, splice, isYl, H.get_push, H.get_set, H.get_kill, nx_push, nx_set, nx_kill, Option.bind_some, Option.bind_none, Option.map_some, Option.map_none, Option.getD_some, Option.getD_none, List.length_cons, List.length_nil, List.take_succ_cons, List.take_zero, List.take_nil, List.drop_succ_cons, List.drop_zero, List.drop_nil, List.nil_append, List.append_nil, List.cons_append, List.getElem?_cons_zero, List.getElem?_cons_succ, List.getElem?_nil, List.map_cons, List.map_nil, List.all_cons, List.all_nil, List.set_cons_zero, List.set_cons_succ, List.replicate_succ, List.replicate_zero, V.beq_refl, ge_iff_le, gt_iff_lt, decide_true, decide_false, Bool.not_true, Bool.not_false, Bool.true_and, Bool.false_and, Bool.and_true, Bool.and_false, Bool.or_true, Bool.true_or, Bool.or_false, Bool.false_or, Bool.not_not, not_true_eq_false, not_false_eq_true, Bool.false_eq_true, Bool.true_eq_false, or_false, false_or, or_true, true_or, or_self, false_and, and_false, ne_eq, true_and, and_true, and_self, if_true, if_false, ite_true, ite_false, decide_eq_true_eq, decide_eq_false_iff_not, V.b.injEq, Option.some.injEq, Int.cast_ofNat_Int, Int.toNat_natCast, Int.natCast_nonneg, Int.lt_irrefl, Int.toNat_zero, List.isEmpty_nil, Nat.left_eq_add, Nat.add_eq_left, Nat.add_assoc, Nat.add_left_cancel_iff, Nat.add_eq_zero_iff, Nat.le_add_right, Nat.add_zero, Nat.zero_add, exists_eq_left', exists_eq_left, ↓reduceIte, Nat.reduceEqDiff, Nat.reduceLeDiff, Nat.reduceLT, Nat.reduceAdd, Nat.reduceSub, Nat.reduceMul, Int.reduceLT, Int.reduceLE, Int.reduceEq, Int.reduceAdd, Int.reduceSub, Int.reduceMul, Int.reduceNeg, Int.reduceToNat, reduceCtorEq, e7, e6, e0, e5, hw1, hw2, hlt, hi0, hgt, q1, q2, t1, p1, c1', c2', c3, hfi', hic, Option.isSome_none, hseg, List.flatten_cons, List.flatten_nil, rseg_tmp1, e1, c4']
              refine Abs.trans (o'.abs (by rfl) (sRows_plain _)) (Abs.eq ?_ ?_)
              · rw [hrel, linesR_zero (by rw [hix]; omega)]
                simp only [hif, Nat.sub_self, List.take_zero]
                rfl
              · rw [hrel, linesR_zero (by rw [hix]; omega)]
                simp only [hif, Nat.sub_self, List.take_zero]
                rfl
            · simp only [↓STEP, wpGot_some, andD_true, looked, behind, lookOk, AAct.kind, AOp.kind, ble_same, ble_add, wpRes, evRes, resV, AOp.ev, v_pd, v_pd0, v_args_cons, v_args_nil, ev_t, ev_c, ev_fn, bin, binI, binS, shiftI, eqV, un, bound, boundO, fill, fillRows, aggOf, keyEq, findKey, putKey, V.cells, V.flat, byteOf, bytesOf, rdOf, rd_of, H.wr, H.kOf, splice, isYl, H.get_push, H.get_set, H.get_kill, nx_push, nx_set, nx_kill, Option.bind_some, Option.bind_none, Option.map_some, Option.map_none, Option.getD_some, Option.getD_none, List.length_cons, List.length_nil, List.take_succ_cons, List.take_zero, List.take_nil, List.drop_succ_cons, List.drop_zero, List.drop_nil, List.nil_append, List.append_nil, List.cons_append, List.getElem?_cons_zero, List.getElem?_cons_succ, List.getElem?_nil, List.map_cons, List.map_nil, List.all_cons, List.all_nil, List.set_cons_zero, List.set_cons_succ, List.replicate_succ, List.replicate_zero, V.beq_refl, ge_iff_le, gt_iff_lt, decide_true, decide_false, Bool.not_true, Bool.not_false, Bool.true_and, Bool.false_and, Bool.and_true, Bool.and_false, Bool.or_true, Bool.true_or, Bool.or_false, Bool.false_or, Bool.not_not, not_true_eq_false, not_false_eq_true, Bool.false_eq_true, Bool.true_eq_false, or_false, false_or, or_true, true_or, or_self, false_and, and_false, ne_eq, true_and, and_true, and_self, if_true, if_false, ite_true, ite_false, decide_eq_true_eq, decide_eq_false_iff_not, V.b.injEq, Option.some.injEq, Int.cast_ofNat_Int, Int.toNat_natCast, Int.natCast_nonneg, Int.lt_irrefl, Int.toNat_zero, List.isEmpty_nil, Nat.left_eq_add, Nat.add_eq_left, Nat.add_assoc, Nat.add_left_cancel_iff, Nat.add_eq_zero_iff, Nat.le_add_right, Nat.add_zero, Nat.zero_add, exists_eq_left', exists_eq_left, ↓reduceIte, Nat.reduceEqDiff, Nat.reduceLeDiff, Nat.reduceLT, Nat.reduceAdd, Nat.reduceSub, Nat.reduceMul, Int.reduceLT, Int.reduceLE, Int.reduceEq, Int.reduceAdd, Int.reduceSub, Int.reduceMul, Int.reduceNeg, Int.reduceToNat, reduceCtorEq, e7, e6, e0, e5, hw1, hw2, hlt, hi0, hgt, q1, q2, t1, p1, c1', c2', c3, hfi', hic, Option.isSome_none, hseg, List.flatten_cons, List.flatten_nil, rseg_tmp1, e1, c4]
              refine ⟨_, by omega, i + 1, i + 2, out ++ [(l.drop frm).take (i - frm)], some (b', 0), n + 1, false, rfl, by omega, by omega, by simp [v_pd], by simp [v_pd], by simp [v_pd, e0], by simp [v_pd], o', by rw [List.length_append, List.length_singleton]; omega, ?_, fun j h1 h2 => by omega⟩
              rw [hrel, linesR_cons hix (by omega), List.drop_drop, show frm + (i - frm + 2) = i + 2 by omega]
              simp only [List.append_assoc, List.cons_append, List.nil_append]
              rw [show frm + (i - frm + 2 + (linesR (l.drop (i + 2))).2.1) = i + 2 + (linesR (l.drop (i + 2))).2.1 by omega]
        · simp only [↓STEP, wpGot_some, andD_true, looked, behind, lookOk, AAct.kind, AOp.kind, ble_same, ble_add, wpRes, evRes, resV, AOp.ev, v_pd, v_pd0, v_args_cons, v_args_nil, ev_t, ev_c, ev_fn, bin, binI, binS, shiftI, eqV, un, bound, boundO, fill, fillRows, aggOf, keyEq, findKey, putKey, V.cells, V.flat, byteOf, bytesOf, rdOf, rd_of, H.wr, H.kOf, splice, isYl, H.get_push, H.get_set, H.get_kill, nx_push, nx_set, nx_kill, Option.bind_some, Option.bind_none, Option.map_some, Option.map_none, Option.getD_some, Option.getD_none, List.length_cons, List.length_nil, List.take_succ_cons, List.take_zero, List.take_nil, List.drop_succ_cons, List.drop_zero, List.drop_nil, List.nil_append, List.append_nil, List.cons_append, List.getElem?_cons_zero, List.getElem?_cons_succ, List.getElem?_nil, List.map_cons, List.map_nil, List.all_cons, List.all_nil, List.set_cons_zero, List.set_cons_succ, List.replicate_succ, List.replicate_zero, V.beq_refl, ge_iff_le, gt_iff_lt, decide_true, decide_false, Bool.not_true, Bool.not_false, Bool.true_and, Bool.false_and, Bool.and_true, Bool.and_false, Bool.or_true, Bool.true_or, Bool.or_false, Bool.false_or, Bool.not_not, not_true_eq_false, not_false_eq_true, Bool.false_eq_true, Bool.true_eq_false, or_false, false_or, or_true, true_or, or_self, false_and, and_false, ne_eq, true_and, and_true, and_self, if_true, if_false, ite_true, ite_false, decide_eq_true_eq, decide_eq_false_iff_not, V.b.injEq, Option.some.injEq, Int.cast_ofNat_Int, Int.toNat_natCast, Int.natCast_nonneg, Int.lt_irrefl, Int.toNat_zero, List.isEmpty_nil, Nat.left_eq_add, Nat.add_eq_left, Nat.add_assoc, Nat.add_left_cancel_iff, Nat.add_eq_zero_iff, Nat.le_add_right, Nat.add_zero, Nat.zero_add, exists_eq_left', exists_eq_left, ↓reduceIte, Nat.reduceEqDiff, Nat.reduceLeDiff, Nat.reduceLT, Nat.reduceAdd, Nat.reduceSub, Nat.reduceMul, Int.reduceLT, Int.reduceLE, Int.reduceEq, Int.reduceAdd, Int.reduceSub, Int.reduceMul, Int.reduceNeg, Int.reduceToNat, reduceCtorEq, e7, e6, e0, e5, hw1, hlt, hi0, hgt, q1, q2, t1, p1, c1', c2]
          exact more (.inl fun hx => c2 (by rw [k2.1 hx.2]; rfl)) _ _ (by simp [v_pd]) (by simp [v_pd, e6]) (by simp [v_pd, e0]) (by simp [v_pd, e5]) rfl
      · simp only [↓STEP, wpGot_some, andD_true, looked, behind, lookOk, AAct.kind, AOp.kind, ble_same, ble_add, wpRes, evRes, resV, AOp.ev, v_pd, v_pd0, v_args_cons, v_args_nil, ev_t, ev_c, ev_fn, bin, binI, binS, shiftI, eqV, un, bound, boundO, fill, fillRows, aggOf, keyEq, findKey, putKey, V.cells, V.flat, byteOf, bytesOf, rdOf, rd_of, H.wr, H.kOf, splice, isYl, H.get_push, H.get_set, H.get_kill, nx_push, nx_set, nx_kill, Option.bind_some, Option.bind_none, Option.map_some, Option.map_none, Option.getD_some, Option.getD_none, List.length_cons, List.length_nil, List.take_succ_cons, List.take_zero, List.take_nil, List.drop_succ_cons, List.drop_zero, List.drop_nil, List.nil_append, List.append_nil, List.cons_append, List.getElem?_cons_zero, List.getElem?_cons_succ, List.getElem?_nil, List.map_cons, List.map_nil, List.all_cons, List.all_nil, List.set_cons_zero, List.set_cons_succ, List.replicate_succ, List.replicate_zero, V.beq_refl, ge_iff_le, gt_iff_lt, decide_true, decide_false, Bool.not_true, Bool.not_false, Bool.true_and, Bool.false_and, Bool.and_true, Bool.and_false, Bool.or_true, Bool.true_or, Bool.or_false, Bool.false_or, Bool.not_not, not_true_eq_false, not_false_eq_true, Bool.false_eq_true, Bool.true_eq_false, or_false, false_or, or_true, true_or, or_self, false_and, and_false, ne_eq, true_and, and_true, and_self, if_true, if_false, ite_true, ite_false, decide_eq_true_eq, decide_eq_false_iff_not, V.b.injEq, Option.some.injEq, Int.cast_ofNat_Int, Int.toNat_natCast, Int.natCast_nonneg, Int.lt_irrefl, Int.toNat_zero, List.isEmpty_nil, Nat.left_eq_add, Nat.add_eq_left, Nat.add_assoc, Nat.add_left_cancel_iff, Nat.add_eq_zero_iff, Nat.le_add_right, Nat.add_zero, Nat.zero_add, exists_eq_left', exists_eq_left, ↓reduceIte, Nat.reduceEqDiff, Nat.reduceLeDiff, Nat.reduceLT, Nat.reduceAdd, Nat.reduceSub, Nat.reduceMul, Int.reduceLT, Int.reduceLE, Int.reduceEq, Int.reduceAdd, Int.reduceSub, Int.reduceMul, Int.reduceNeg, Int.reduceToNat, reduceCtorEq, e7, e6, e0, e5, hw1, hlt, hi0, hgt, q1, q2, t1, p1, c1]
        exact more (.inl fun hx => c1 (by rw [k1.1 hx.1]; rfl)) _ _ (by simp [v_pd]) (by simp [v_pd, e6]) (by simp [v_pd, e0]) (by simp [v_pd, e5]) rfl
    · simp only [↓STEP, wpGot_some, andD_true, looked, behind, lookOk, AAct.kind, AOp.kind, ble_same, ble_add, wpRes, evRes, resV, AOp.ev, v_pd, v_pd0, v_args_cons, v_args_nil, ev_t, ev_c, ev_fn, bin, binI, binS, shiftI, eqV, un, bound, boundO, fill, fillRows, aggOf, keyEq, findKey, putKey, V.cells, V.flat, byteOf, bytesOf, rdOf, rd_of, H.wr, H.kOf, splice, isYl, H.get_push, H.get_set, H.get_kill, nx_push, nx_set, nx_kill, Option.bind_some, Option.bind_none, Option.map_some, Option.map_none, Option.getD_some, Option.getD_none, List.length_cons, List.length_nil, List.take_succ_cons, List.take_zero, List.take_nil, List.drop_succ_cons, List.drop_zero, List.drop_nil, List.nil_append, List.append_nil, List.cons_append, List.getElem?_cons_zero, List.getElem?_cons_succ, List.getElem?_nil, List.map_cons, List.map_nil, List.all_cons, List.all_nil, List.set_cons_zero, List.set_cons_succ, List.replicate_succ, List.replicate_zero, V.beq_refl, ge_iff_le, gt_iff_lt, decide_true, decide_false, Bool.not_true, Bool.not_false, Bool.true_and, Bool.false_and, Bool.and_true, Bool.and_false, Bool.or_true, Bool.true_or, Bool.or_false, Bool.false_or, Bool.not_not, not_true_eq_false, not_false_eq_true, Bool.false_eq_true, Bool.true_eq_false, or_false, false_or, or_true, true_or, or_self, false_and, and_false, ne_eq, true_and, and_true, and_self, if_true, if_false, ite_true, ite_false, decide_eq_true_eq, decide_eq_false_iff_not, V.b.injEq, Option.some.injEq, Int.cast_ofNat_Int, Int.toNat_natCast, Int.natCast_nonneg, Int.lt_irrefl, Int.toNat_zero, List.isEmpty_nil, Nat.left_eq_add, Nat.add_eq_left, Nat.add_assoc, Nat.add_left_cancel_iff, Nat.add_eq_zero_iff, Nat.le_add_right, Nat.add_zero, Nat.zero_add, exists_eq_left', exists_eq_left, ↓reduceIte, Nat.reduceEqDiff, Nat.reduceLeDiff, Nat.reduceLT, Nat.reduceAdd, Nat.reduceSub, Nat.reduceMul, Int.reduceLT, Int.reduceLE, Int.reduceEq, Int.reduceAdd, Int.reduceSub, Int.reduceMul, Int.reduceNeg, Int.reduceToNat, reduceCtorEq, e7, e6, e0, e5, hw1, hlt]
      have hix : fIdxS (l.drop frm) crlf = -1 := fIdx_crlf_none fun j hx => by
        rw [List.getElem?_drop, List.getElem?_drop] at hx
        have h2 := (List.getElem?_eq_some_iff.1 hx.2).1
        exact hno (frm + j) (by omega) (by omega) hx
      refine Abs.trans (o.abs (by rfl) (sRows_plain _)) (Abs.eq ?_ ?_)
      · rw [hrel, linesR_none (by rw [hix]; omega)]; simp
      · rw [hrel, linesR_none (by rw [hix]; omega)]; simp
  · exact ⟨0, 0, [], none, 0, true, rfl, Nat.zero_le _, Nat.zero_le _, by simp [v_pd], by simp [v_pd], by simp [v_pd, v_args_cons], by simp [v_pd], OutR.nil h 1, Nat.le_refl _, by simp, fun j h1 h2 => by omega⟩

end Am
