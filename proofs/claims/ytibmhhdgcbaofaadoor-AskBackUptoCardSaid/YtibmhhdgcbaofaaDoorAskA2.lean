/- Numbers in bytes, the highest first: what the program and the document lay. -/
import Derived.Test.YtibmhhdgcbaofaaDoorAskA1
import Derived.Test.YtibmhhdgcbaofaaDoorAsk5
namespace Am
set_option linter.unusedVariables false
set_option linter.unusedSimpArgs false
set_option maxRecDepth 20000
set_option maxHeartbeats 4000000
variable {pr : Prog}

def beL (s n : Nat) : List UInt8 := (List.range s).map fun j => UInt8.ofNat (n / 256 ^ (s - 1 - j) % 256)
theorem beL_len (s n : Nat) : (beL s n).length = s := by simp [beL]
theorem beL_at {s n j : Nat} (h : j < s) : (beL s n)[j]? = some (UInt8.ofNat (n / 256 ^ (s - 1 - j) % 256)) := by
  unfold beL
  rw [List.getElem?_map, List.getElem?_range h]; rfl
theorem wrap_u8m (x : Nat) : Go.IntKind.wrap .u8 (x : Int) = ((x % 256 : Nat) : Int) := by
  unfold Go.IntKind.wrap
  simp only [Go.IntKind.bits, Go.IntKind.signed]
  simp

def LayLoop (h g0 : H) (a0 : Option (Nat × Nat)) (N size : Nat) (out : List UInt8) (m : Nat) (t : Tm) (g : H) : Prop :=
  ∃ (j : Nat) (a : Option (Nat × Nat)) (n : Nat) (ex : Bool), (KeptA a0 g0 g ∧ ∀ b, blkOf a = some b → g0.nx ≤ b ∨ blkOf a0 = some b) ∧ m = size - j ∧ j ≤ size ∧ t.v 7 = .i .i64 ((size : Int) - 1 - j) ∧ t.v 2 = .i .i64 (N : Nat) ∧ t.v 0 = .sl a n n ex ∧ OutX h g a n ex (out ++ (beL size N).take j)
theorem lay_runs {kl : Nat} (hA : pr.ext kl = none) (hfn : pr.fn kl = some c_frame_lay) {h g : H} {a : Option (Nat × Nat)} {n : Nat} {ex : Bool} {out : List UInt8} (o : OutX h g a n ex out) {size N : Nat} (hs : size ≤ 7) (hN : N < 9223372036854775808) (hol : out.length ≤ 100000000) :
    Runs pr (.fn kl) [.sl a n n ex, .i .i64 (size : Int), .i .i64 (N : Int)] g (fun v g' => ∃ a' n' ex', v = .sl a' n' n' ex' ∧ OutX h g' a' n' ex' (out ++ beL size N) ∧ KeptA a g g' ∧ ∀ b, blkOf a' = some b → g.nx ≤ b ∨ blkOf a = some b) := by
  refine runs_of_wpF hA hfn ?_
  unfold wpF c_frame_lay
  refine ⟨by simp, ?_⟩
  have w1 : Go.IntKind.wrap .i64 ((size : Int) - 1) = (size : Int) - 1 := wrap_i64 (by omega) (by omega)
  simp only [↓STEP, SB, looked, behind, lookOk, AAct.kind, AOp.kind, wpRes, evRes, resV, AOp.ev, bin, binI, binS, shiftI, eqV, un, bound, boundO, fill, fillRows, aggOf, keyEq, findKey, putKey, V.cells, V.flat, byteOf, bytesOf, rdOf, H.wr, H.kOf, splice, isYl, ↓reduceIte, Nat.reduceEqDiff, Nat.reduceLeDiff, Nat.reduceLT, Nat.reduceAdd, Nat.reduceSub, Nat.reduceMul, Int.reduceLT, Int.reduceLE, Int.reduceEq, Int.reduceAdd, Int.reduceSub, Int.reduceMul, Int.reduceNeg, Int.reduceToNat, reduceCtorEq, w1]
  refine wpA_loop_inv (LayLoop h g a N size out) ?_ (m := size) ?_
  · rintro m t g1 ⟨j, a1, n, ex, ⟨hka, hfr⟩, rfl, hj, e7, e2, e0, o⟩
    have hnl := o.len
    rw [List.length_append, List.length_take, beL_len] at hnl
    by_cases hlt : j < size
    · obtain ⟨k, hk⟩ : ∃ k, k + j + 1 = size := ⟨size - 1 - j, by omega⟩
      have hke : (size : Int) - 1 - j = (k : Int) := by omega
      rw [hke] at e7
      have hk0 : (0 : Int) ≤ (k : Int) := by omega
      have w8 : Go.IntKind.wrap .i64 (8 * (k : Int)) = ((8 * k : Nat) : Int) := by rw [wrap_i64 (by omega) (by omega)]; omega
      have hnn : ¬ ((8 * k : Nat) : Int) < 0 := by omega
      have hmin : Nat.min (8 * k) Go.IntKind.i64.bits = 8 * k := Nat.min_eq_left (by show 8 * k ≤ 64; omega)
      have hf : Int.fdiv (N : Int) (2 ^ (8 * k)) = ((N / 256 ^ k : Nat) : Int) := by
        have := fdiv_nat N (2 ^ (8 * k))
        rw [show (256 : Nat) = 2 ^ 8 from rfl, ← Nat.pow_mul]
        rw [← this]
        congr 1
      have wu := wrap_u8m (N / 256 ^ k)
      have lt8 : ((N / 256 ^ k % 256 : Nat) : Int) < 256 := by omega
      have wk : Go.IntKind.wrap .i64 ((k : Int) - 1) = (k : Int) - 1 := wrap_i64 (by omega) (by omega)
      obtain ⟨b', g', e1, o', hk1, hb1⟩ := o.app1K (.bytes [UInt8.ofNat (N / 256 ^ k % 256)] false) (UInt8.ofNat (N / 256 ^ k % 256)) (by omega)
      simp only [↓STEP, SB, looked, behind, lookOk, AAct.kind, AOp.kind, wpRes, evRes, resV, AOp.ev, bin, binI, binS, shiftI, eqV, un, bound, boundO, fill, fillRows, aggOf, keyEq, findKey, putKey, V.cells, V.flat, byteOf, bytesOf, rdOf, H.wr, H.kOf, splice, isYl, ↓reduceIte, Nat.reduceEqDiff, Nat.reduceLeDiff, Nat.reduceLT, Nat.reduceAdd, Nat.reduceSub, Nat.reduceMul, Int.reduceLT, Int.reduceLE, Int.reduceEq, Int.reduceAdd, Int.reduceSub, Int.reduceMul, Int.reduceNeg, Int.reduceToNat, reduceCtorEq, e7, e2, e0, hk0, w8, hnn, hmin, hf, wu, lt8, wk, List.flatten_cons, List.flatten_nil, bseg_tmp1, e1]
      refine ⟨_, by omega, j + 1, some (b', 0), n + 1, false, ⟨hka.trans hk1 hfr, fun b hb => by cases hb; exact .inl (Nat.le_trans hka.1 hb1)⟩, rfl, by omega, by simp [v_pd]; omega, by simp [v_pd, e2], by simp [v_pd], ?_⟩
      have : (beL size N).take (j + 1) = (beL size N).take j ++ [UInt8.ofNat (N / 256 ^ k % 256)] := by
        rw [List.take_add_one, beL_at hlt, show size - 1 - j = k by omega]; rfl
      rw [this, ← List.append_assoc]
      exact o'
    · have hj' : j = size := by omega
      subst hj'
      have hneg : ¬ (0 : Int) ≤ (j : Int) - 1 - j := by omega
      rw [List.take_of_length_le (by rw [beL_len]; omega)] at o
      simp only [↓STEP, SB, looked, behind, lookOk, AAct.kind, AOp.kind, wpRes, evRes, resV, AOp.ev, bin, binI, binS, shiftI, eqV, un, bound, boundO, fill, fillRows, aggOf, keyEq, findKey, putKey, V.cells, V.flat, byteOf, bytesOf, rdOf, H.wr, H.kOf, splice, isYl, ↓reduceIte, Nat.reduceEqDiff, Nat.reduceLeDiff, Nat.reduceLT, Nat.reduceAdd, Nat.reduceSub, Nat.reduceMul, Int.reduceLT, Int.reduceLE, Int.reduceEq, Int.reduceAdd, Int.reduceSub, Int.reduceMul, Int.reduceNeg, Int.reduceToNat, reduceCtorEq, e7, e2, e0, hneg]
      exact ⟨_, _, _, rfl, o, hka, hfr⟩
  · exact ⟨0, a, n, ex, ⟨KeptA.refl, fun b hb => .inr hb⟩, rfl, Nat.zero_le _, by simp [v_pd], by simp [v_pd, v_args_cons], by simp [v_pd, v_args_cons], by rw [List.take_zero, List.append_nil]; exact o⟩

end Am
