/- Numbers in bytes, the highest first: what the program and the document lay. -/
import Derived.Test.YtibmhhdgcbaofaaDoorAskA1
import Derived.Test.YtibmhhdgcbaofaaDoorAsk5
namespace Am
set_option linter.unusedVariables false
set_option linter.unusedSimpArgs false
set_option maxRecDepth 20000
set_option maxHeartbeats 4000000
variable {pr : Prog}

def beL (s n : Nat) : List UInt8 := (List.range s).map fun j => UInt8.ofNat (n / 256 ^ (s - 1 - j) % 256)
theorem beL_len (s n : Nat) : (beL s n).length = s := by simp [beL]
theorem beL_at {s n j : Nat} (h : j < s) : (beL s n)[j]? = some (UInt8.ofNat (n / 256 ^ (s - 1 - j) % 256)) := by
  unfold beL
  rw [List.getElem?_map, List.getElem?_range h]; rfl
theorem wrap_u8m (x : Nat) : Go.IntKind.wrap .u8 (x : Int) = ((x % 256 : Nat) : Int) := by
  unfold Go.IntKind.wrap
  simp only [Go.IntKind.bits, Go.IntKind.signed]
  simp

def LayLoop (h g0 : H) (a0 : Option (Nat × Nat)) (N size : Nat) (out : List UInt8) (m : Nat) (t : Tm) (g : H) : Prop :=
  ∃ (j : Nat) (a : Option (Nat × Nat)) (n : Nat) (ex : Bool), (KeptA a0 g0 g ∧ ∀ b, blkOf a = some b → g0.nx ≤ b ∨ blkOf a0 = some b) ∧ m = size - j ∧ j ≤ size ∧ t.v 7 = .i .i64 ((size : Int) - 1 - j) ∧ t.v 2 = .i .i64 (N : Nat) ∧ t.v 0 = .sl a n n ex ∧ OutX h g a n ex (out ++ (beL size N).take j)
theorem lay_runs {kl : Nat} (hA : pr.ext kl = none) (hfn : pr.fn kl = some c_frame_lay) {h g : H} {a : Option (Nat × Nat)} {n : Nat} {ex : Bool} {out : List UInt8} (o : OutX h g a n ex out) {size N : Nat} (hs : size ≤ 7) (hN : N < 9223372036854775808) (hol : out.length ≤ 100000000) :
    Runs pr (.fn kl) [.sl a n n ex, .i .i64 (size : Int), .i .i64 (N : Int)] g (fun v g' => ∃ a' n' ex', v = .sl a' n' n' ex' ∧ OutX h g' a' n' ex' (out ++ beL size N) ∧ KeptA a g g' ∧ ∀ b, blkOf a' = some b → g.nx ≤ b ∨ blkOf a = some b) := by
  refine runs_of_wpF hA hfn ?_
  unfold wpF c_frame_lay
  refine ⟨by simp, ?_⟩
  have w1 : Go.IntKind.wrap .i64 ((size : Int) - 1) = (size : Int) - 1 := wrap_i64 (by omega) (by omega)
  simp only [↓STEP, SB, looked, behind, lookOk, AAct.kind, AOp.kind, wpRes, evRes, resV, AOp.ev, bin, binI, binS, shiftI, eqV, un, bound, boundO, fill, fillRows, aggOf, keyEq, findKey, putKey, V.cells, V.flat, byteOf, bytesOf, rdOf, H.wr, H.kOf, splice, isYl, ↓reduceIte, Nat.reduceEqDiff, Nat.reduceLeDiff, Nat.reduceLT, Nat.reduceAdd, Nat.reduceSub, Nat.reduceMul, Int.reduceLT, Int.reduceLE, Int.reduceEq, Int.reduceAdd, Int.reduceSub, Int.reduceMul, Int.reduceNeg, Int.reduceToNat, reduceCtorEq, w1]
  refine wpA_loop_inv (LayLoop h g a N size out) ?_ (m := size) ?_
  · rintro m t g1 ⟨j, a1, n, ex, ⟨hka, hfr⟩, rfl, hj, e7, e2, e0, o⟩
    have hnl := o.len
    rw [List.length_append, List.length_take, beL_len] at hnl
    by_cases hlt : j < size
    · obtain ⟨k, hk⟩ : ∃ k, k + j + 1 = size := ⟨size - 1 - j, by omega⟩
      have hke : (size : Int) - 1 - j = (k : Int) := by omega
      rw [hke] at e7
      have hk0 : (0 : Int) ≤ (k : Int) := by omega
      have w8 : Go.IntKind.wrap .i64 (8 * (k : Int)) = ((8 * k : Nat) : Int) := by rw [wrap_i64 (by omega) (by omega)]; omega
      have hnn : ¬ ((8 * k : Nat) : Int) < 0 := by omega
      have hmin : Nat.min (8 * k) Go.IntKind.i64.bits = 8 * k := Nat.min_eq_left (by show 8 * k ≤ 64; omega)
      have hf : Int.fdiv (N : Int) (2 ^ (8 * k)) = ((N / 256 ^ k : Nat) : Int) := by
        have := fdiv_nat N (2 ^ (8 * k))
        rw [show (256 : Nat) = 2 ^ 8 from rfl, ← Nat.pow_mul]
        rw [← this]
        congr 1
      have wu := wrap_u8m (N / 256 ^ k)
      have lt8 : ((N / 256 ^ k % 256 : Nat) : Int) < 256 := by omega
      have wk : Go.IntKind.wrap .i64 ((k : Int) - 1) = (k : Int) - 1 := wrap_i64 (by omega) (by omega)
      obtain ⟨b', g', e1, o', hk1, hb1⟩ := o.app1K (.bytes [UInt8.ofNat (N / 256 ^ k % 256)] false) (UInt8.ofNat (N / 256 ^ k % 256)) (by omega)
      simp only [↓STEP, SB, looked, behind, lookOk, AAct.kind, AOp.kind, wpRes, evRes, resV, AOp.ev, bin, binI, binS, shiftI, eqV, un, bound, boundO, fill, fillRows, aggOf, keyEq, findKey, putKey, V.cells, V.flat, byteOf, bytesOf, rdOf, H.wr, H.kOf, splice, isYl, ↓reduceIte, Nat.reduceEqDiff, Nat.reduceLeDiff, Nat.reduceLT, Nat.reduceAdd, Nat.reduceSub, Nat.reduceMul, Int.reduceLT, Int.reduceLE, Int.reduceEq, Int.reduceAdd, Int.reduceSub, Int.reduceMul, Int.reduceNeg, Int.reduceToNat, reduceCtorEq, e7, e2, e0, hk0, w8, hnn, hmin, hf, wu, lt8, wk, List.flatten_cons, List.flatten_nil, bseg_tmp1, e1]
      refine ⟨_, by omega, j + 1, some (b', 0), n + 1, false, ⟨hka.trans hk1 hfr, fun b hb => by cases hb; exact .inl (Nat.le_trans hka.1 hb1)⟩, rfl, by omega, by simp [v_pd]; omega, by simp [v_pd, e2], by simp [v_pd], ?_⟩
      have : (beL size N).take (j + 1) = (beL size N).take j ++ [UInt8.ofNat (N / 256 ^ k % 256)] := by
        rw [List.take_add_one, beL_at hlt, show size - 1 - j = k by omega]; rfl
      rw [this, ← List.append_assoc]
      exact o'
    · have hj' : j = size := by omega
      subst hj'
      have hneg : ¬ (0 : Int) ≤ (j : Int) - 1 - j := by omega
      rw [List.take_of_length_le (by rw [beL_len]; omega)] at o
      simp only [↓STEP, SB, looked, behind, lookOk, AAct.kind, AOp.kind, wpRes, evRes, resV, AOp.ev, bin, binI, binS, shiftI, eqV, un, bound, boundO, fill, fillRows, aggOf, keyEq, findKey, putKey, V.cells, V.flat, byteOf, bytesOf, rdOf, H.wr, H.kOf, splice, isYl, ↓reduceIte, Nat.reduceEqDiff, Nat.reduceLeDiff, Nat.reduceLT, Nat.reduceAdd, Nat.reduceSub, Nat.reduceMul, Int.reduceLT, Int.reduceLE, Int.reduceEq, Int.reduceAdd, Int.reduceSub, Int.reduceMul, Int.reduceNeg, Int.reduceToNat, reduceCtorEq, e7, e2, e0, hneg]
      exact ⟨_, _, _, rfl, o, hka, hfr⟩
  · exact ⟨0, a, n, ex, ⟨KeptA.refl, fun b hb => .inr hb⟩, rfl, Nat.zero_le _, by simp [v_pd], by simp [v_pd, v_args_cons], by simp [v_pd, v_args_cons], by rw [List.take_zero, List.append_nil]; exact o⟩

def gBe (ys : List V) (h : H) : Option (V × H) :=
  match ys with
  | [.i .i64 n, .i .i64 s] => if 0 ≤ n ∧ n < 9223372036854775808 ∧ 0 < s ∧ s ≤ 7 then some (.sl (some (h.nx, 0)) s.toNat s.toNat true, h.push (.bytes (beL s.toNat n.toNat) false)) else none
  | _ => none
theorem gBe_eq {N s : Nat} {h : H} (hN : N < 9223372036854775808) (h0 : 0 < s) (hs : s ≤ 7) : gBe [.i .i64 (N : Int), .i .i64 (s : Int)] h = some (.sl (some (h.nx, 0)) s s true, h.push (.bytes (beL s N) false)) := by
  unfold gBe
  simp only
  rw [if_pos ⟨by omega, by omega, by omega, by omega⟩]
  simp
def BeLoop (h : H) (N s : Nat) (m : Nat) (t : Tm) (g : H) : Prop :=
  ∃ j : Nat, m = s - j ∧ j ≤ s ∧ t.v 6 = .i .i64 ((s : Int) - 1 - j) ∧ t.v 0 = .i .i64 ((N / 256 ^ j : Nat) : Int) ∧ t.v 5 = .sl (some (h.nx, 0)) s s true ∧ Kept h g ∧ h.nx < g.nx ∧ g.get h.nx = some (.bytes (List.replicate (s - j) 0 ++ (beL s N).drop (s - j)) false)
theorem be_ok : OkF pr c_isthmusref7_be gBe := by
  intro ys h v h' hg
  unfold gBe at hg
  split at hg
  case h_2 => cases hg
  rename_i n0 s0
  split at hg
  case isFalse => cases hg
  rename_i hc
  obtain ⟨N, rfl⟩ : ∃ N : Nat, n0 = N := ⟨n0.toNat, by omega⟩
  obtain ⟨s, rfl⟩ : ∃ s : Nat, s0 = s := ⟨s0.toNat, by omega⟩
  cases hg
  unfold wpF c_isthmusref7_be
  refine ⟨by simp, ?_⟩
  have w1 : Go.IntKind.wrap .i64 ((s : Int) - 1) = (s : Int) - 1 := wrap_i64 (by omega) (by omega)
  have c1 : (0 : Int) ≤ s := by omega
  have c2 : 1 * s ≤ 140737488355328 := by omega
  have c2' : s ≤ 140737488355328 := by omega
  simp only [↓STEP, SB, looked, behind, lookOk, AAct.kind, AOp.kind, wpRes, evRes, resV, AOp.ev, bin, binI, binS, shiftI, eqV, un, bound, boundO, fill, fillRows, aggOf, keyEq, findKey, putKey, V.cells, V.flat, byteOf, bytesOf, rdOf, H.wr, H.kOf, splice, isYl, ↓reduceIte, Nat.reduceEqDiff, Nat.reduceLeDiff, Nat.reduceLT, Nat.reduceAdd, Nat.reduceSub, Nat.reduceMul, Int.reduceLT, Int.reduceLE, Int.reduceEq, Int.reduceAdd, Int.reduceSub, Int.reduceMul, Int.reduceNeg, Int.reduceToNat, reduceCtorEq, w1, c1, c2, c2', Int.le_refl, Nat.one_mul, Nat.zero_lt_one, List.isEmpty_cons]
  refine wpA_loop_inv (BeLoop h N s) ?_ (m := s) ?_
  · rintro m t g ⟨j, rfl, hj, e6, e0, e5, hk, hn, hg⟩
    by_cases hlt : j < s
    · obtain ⟨k, hk1⟩ : ∃ k, k + j + 1 = s := ⟨s - 1 - j, by omega⟩
      have hke : (s : Int) - 1 - j = (k : Int) := by omega
      rw [hke] at e6
      have hk0 : (0 : Int) ≤ (k : Int) := by omega
      have hks : (k : Int) < s := by omega
      have d1 : Int.tmod ((N / 256 ^ j : Nat) : Int) 256 = ((N / 256 ^ j % 256 : Nat) : Int) := tmod_nat _ 256
      have d2 : Int.tdiv ((N / 256 ^ j : Nat) : Int) 256 = ((N / 256 ^ j / 256 : Nat) : Int) := tdiv_nat _ 256
      have hle : N / 256 ^ j ≤ N := Nat.div_le_self _ _
      have w2 := wrap_nat (N / 256 ^ j / 256) (by omega)
      have wu : Go.IntKind.wrap .u8 ((N / 256 ^ j % 256 : Nat) : Int) = ((N / 256 ^ j % 256 : Nat) : Int) := wrap_u8 _ (by omega)
      have lt8 : ((N / 256 ^ j % 256 : Nat) : Int) < 256 := by omega
      have wk : Go.IntKind.wrap .i64 ((k : Int) - 1) = (k : Int) - 1 := wrap_i64 (by omega) (by omega)
      have hlen : k < (List.replicate (s - j) (0 : UInt8) ++ (beL s N).drop (s - j)).length := by simp; omega
      have hset : (List.replicate (s - j) (0 : UInt8) ++ (beL s N).drop (s - j)).set k (UInt8.ofNat (N / 256 ^ j % 256)) = List.replicate (s - (j + 1)) 0 ++ (beL s N).drop (s - (j + 1)) := by
        apply List.ext_getElem?
        intro i
        rw [List.getElem?_set]
        by_cases hi : k = i
        · subst hi
          rw [if_pos rfl, if_pos hlen, List.getElem?_append_right (by simp; omega), List.getElem?_drop]
          simp only [List.length_replicate]
          rw [show s - (j + 1) + (k - (s - (j + 1))) = k by omega, beL_at (by omega), show s - 1 - k = j by omega]
        · rw [if_neg hi]
          by_cases h1 : i < s - (j + 1)
          · rw [List.getElem?_append_left (by simp; omega), List.getElem?_append_left (by simp; omega), List.getElem?_replicate, List.getElem?_replicate, if_pos (by omega), if_pos (by omega)]
          · rw [List.getElem?_append_right (by simp; omega), List.getElem?_append_right (by simp; omega), List.getElem?_drop, List.getElem?_drop]
            simp only [List.length_replicate]
            congr 1; omega
      simp only [↓STEP, SB, looked, behind, lookOk, AAct.kind, AOp.kind, wpRes, evRes, resV, AOp.ev, bin, binI, binS, shiftI, eqV, un, bound, boundO, fill, fillRows, aggOf, keyEq, findKey, putKey, V.cells, V.flat, byteOf, bytesOf, rdOf, H.wr, H.kOf, splice, isYl, ↓reduceIte, Nat.reduceEqDiff, Nat.reduceLeDiff, Nat.reduceLT, Nat.reduceAdd, Nat.reduceSub, Nat.reduceMul, Int.reduceLT, Int.reduceLE, Int.reduceEq, Int.reduceAdd, Int.reduceSub, Int.reduceMul, Int.reduceNeg, Int.reduceToNat, reduceCtorEq, e6, e0, e5, hk0, hks, d1, d2, w2, wu, lt8, wk, hg, hlen, hset]
      refine ⟨_, by omega, j + 1, rfl, by omega, by simp [v_pd]; omega, ?_, by simp [v_pd, v_pd0, e5], ?_, ?_, ?_⟩
      · simp only [v_pd, v_pd0, Nat.reduceEqDiff, if_false, if_true]
        rw [Nat.div_div_eq_div_mul, ← Nat.pow_succ]
      · exact hk.set (Nat.le_refl _)
      · exact hn
      · rw [H.get_set, if_pos rfl]
    · have hj' : j = s := by omega
      subst hj'
      have hneg : ¬ (0 : Int) ≤ (j : Int) - 1 - j := by omega
      simp only [↓STEP, SB, looked, behind, lookOk, AAct.kind, AOp.kind, wpRes, evRes, resV, AOp.ev, bin, binI, binS, shiftI, eqV, un, bound, boundO, fill, fillRows, aggOf, keyEq, findKey, putKey, V.cells, V.flat, byteOf, bytesOf, rdOf, H.wr, H.kOf, splice, isYl, ↓reduceIte, Nat.reduceEqDiff, Nat.reduceLeDiff, Nat.reduceLT, Nat.reduceAdd, Nat.reduceSub, Nat.reduceMul, Int.reduceLT, Int.reduceLE, Int.reduceEq, Int.reduceAdd, Int.reduceSub, Int.reduceMul, Int.reduceNeg, Int.reduceToNat, reduceCtorEq, e6, e0, e5, hneg]
      rw [Nat.sub_self, List.replicate_zero, List.nil_append, List.drop_zero] at hg
      exact Abs.slice1 hk hg (Nat.le_refl _) rfl rfl
  · refine ⟨0, rfl, Nat.zero_le _, by simp [v_pd], by simp [v_pd, v_args_cons], by simp [v_pd], by (repeat (first | exact Kept.refl | apply Kept.push | refine Kept.kill ?_ (by omega) | refine Kept.set ?_ (by omega))), Nat.lt_succ_self _, ?_⟩
    rw [H.get_push, if_pos rfl, Nat.sub_zero, List.drop_eq_nil_of_le (by rw [beL_len]; omega), List.append_nil]

end Am
