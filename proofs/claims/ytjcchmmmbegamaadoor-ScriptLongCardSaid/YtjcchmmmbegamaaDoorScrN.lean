/- Script texts: numbers written, in the program and in the document. -/
import Derived.Test.YtjcchmmmbegamaaDoorScrS
import Derived.Test.YtjcchmmmbegamaaDoorCodesAll
import Derived.Lib.ItoaNum
namespace Am
set_option linter.unusedVariables false
set_option linter.unusedSimpArgs false
set_option maxRecDepth 20000
set_option maxHeartbeats 4000000
variable {pr : Prog}

def decF : Nat → Nat → List UInt8
  | 0, _ => []
  | k + 1, u => if u < 10 then [UInt8.ofNat (48 + u)] else decF k (u / 10) ++ [UInt8.ofNat (48 + u % 10)]
def itoF (n : Int) : List UInt8 := if n < 0 then 45 :: decF 20 n.natAbs else decF 20 n.toNat
theorem decF_eq : ∀ (k u : Nat), u < 10 ^ (k + 1) → decF (k + 1) u = Go.Lib.decDigits u
  | 0, u, h => by
    rw [decF, Go.Lib.decDigits, if_pos (by simpa using h), dif_pos (by simpa using h)]
  | k + 1, u, h => by
    rw [decF, Go.Lib.decDigits]
    by_cases h10 : u < 10
    · rw [if_pos h10, dif_pos h10]
    · rw [if_neg h10, dif_neg h10, decF_eq k (u / 10) (by rw [Nat.pow_succ] at h; omega)]
theorem decF_len : ∀ (k u : Nat), (decF k u).length ≤ k
  | 0, u => by simp [decF]
  | k + 1, u => by
    rw [decF]
    split
    · simp
    · have := decF_len k (u / 10); simp; omega
theorem dec20 {u : Nat} (h : u < 10 ^ 20) : decF 20 u = Go.Lib.decDigits u := decF_eq 19 u h
theorem itoF_eq {n : Int} (h0 : -9223372036854775808 ≤ n) (h1 : n ≤ 9223372036854775807) : itoF n = Go.Lib.itoa n := by
  unfold itoF Go.Lib.itoa
  rw [dec20 (by omega), dec20 (by omega)]
theorem itoF_len (n : Int) : (itoF n).length ≤ 21 := by
  unfold itoF
  split
  · have := decF_len 20 n.natAbs; simp; omega
  · have := decF_len 20 n.toNat; omega
theorem itoF_nat (u : Nat) : itoF (u : Int) = decF 20 u := by
  unfold itoF
  rw [if_neg (by omega)]; rfl

/-- Which numbers are written at a heap. -/
def Zok (Z : H → Int → Bool) : Prop := ∀ h g n, Kept h g → Z h n = true → Z g n = true
def xFmt (Z : H → Int → Bool) (ys : List V) (h : H) : Option (V × H) :=
  match ys with
  | [.i .i64 n, .i .i64 b] => if b = 10 ∧ Z h n = true ∧ -9223372036854775808 ≤ n ∧ n ≤ 9223372036854775807 then some (.s (itoF n), h) else none
  | _ => none
def gNumS (Z : H → Int → Bool) (ys : List V) (h : H) : Option (V × H) :=
  match ys with
  | [.i .i64 n] => if Z h n = true ∧ -9223372036854775808 ≤ n ∧ n ≤ 9223372036854775807 then some (.s (itoF n), h) else none
  | _ => none
theorem gNumS_eq {Z : H → Int → Bool} {n : Int} {h : H} (hz : Z h n = true) (h0 : -9223372036854775808 ≤ n) (h1 : n ≤ 9223372036854775807) : gNumS Z [.i .i64 n] h = some (.s (itoF n), h) := if_pos ⟨hz, h0, h1⟩
theorem numberS_ok {Z : H → Int → Bool} {kf : Nat} (hf : pr.ext kf = some (xFmt Z)) : OkF pr (c_script_number kf) (gNumS Z) := by
  intro ys h v h' hg
  unfold gNumS at hg
  split at hg
  case h_2 => cases hg
  rename_i n
  split at hg
  case isFalse => cases hg
  rename_i hz
  cases hg
  unfold wpF c_script_number
  refine ⟨by simp, ?_⟩
  have hc0 := @wpCall_ext pr kf (xFmt Z) hf
  have hx : xFmt Z [.i .i64 n, .i .i64 10] h = some (.s (itoF n), h) := if_pos ⟨rfl, hz⟩
  simp only [↓STEP, SB, looked, behind, lookOk, AAct.kind, AOp.kind, wpRes, evRes, resV, AOp.ev, bin, binI, binS, shiftI, eqV, un, bound, boundO, fill, fillRows, aggOf, keyEq, findKey, putKey, V.cells, V.flat, byteOf, bytesOf, rdOf, H.wr, H.kOf, splice, isYl, ↓reduceIte, Nat.reduceEqDiff, Nat.reduceLeDiff, Nat.reduceLT, Nat.reduceAdd, Nat.reduceSub, Nat.reduceMul, Int.reduceLT, Int.reduceLE, Int.reduceEq, Int.reduceAdd, Int.reduceSub, Int.reduceMul, Int.reduceNeg, Int.reduceToNat, reduceCtorEq, hc0, hx]
  exact Abs.out rfl rfl Kept.refl

def gDigR (ys : List V) (h : H) : Option (V × H) :=
  match ys with
  | [.i .i64 n] => if 0 ≤ n ∧ n ≤ 9223372036854775807 then some (.s (itoF n), h) else none
  | _ => none
theorem gDigR_eq {n : Int} {h : H} (h0 : 0 ≤ n) (h1 : n ≤ 9223372036854775807) : gDigR [.i .i64 n] h = some (.s (itoF n), h) := if_pos ⟨h0, h1⟩
def DgLoop (h : H) (u : Nat) (m : Nat) (t : Tm) (g : H) : Prop :=
  ∃ (w : Nat) (s : List UInt8), m = w ∧ w ≤ u ∧ t.v 0 = .i .i64 (w : Nat) ∧ t.v 3 = .s s ∧ s.length ≤ 20 ∧ (w = 0 → s = Go.Lib.decDigits u) ∧ (0 < w → Go.Lib.decDigits w ++ s = Go.Lib.decDigits u) ∧ Kept h g
theorem decD_step {w : Nat} (h : 10 ≤ w) : Go.Lib.decDigits w = Go.Lib.decDigits (w / 10) ++ [UInt8.ofNat (48 + w % 10)] := by
  rw [Go.Lib.decDigits, dif_neg (by omega)]
theorem decD_small {w : Nat} (h : w < 10) : Go.Lib.decDigits w = [UInt8.ofNat (48 + w)] := by
  rw [Go.Lib.decDigits, dif_pos h]
theorem digitsR_ok {kd : Nat} : OkF pr (c_isthmusref23_Digits kd) gDigR := by
  intro ys h v h' hg
  unfold gDigR at hg
  split at hg
  case h_2 => cases hg
  rename_i n
  split at hg
  case isFalse => cases hg
  rename_i hn
  obtain ⟨u, rfl⟩ : ∃ u : Nat, n = (u : Int) := ⟨n.toNat, by omega⟩
  cases hg
  have hlen : (Go.Lib.decDigits u).length ≤ 20 := by rw [← dec20 (by omega)]; exact decF_len 20 u
  rw [itoF_nat, dec20 (by omega)]
  unfold wpF c_isthmusref23_Digits
  refine ⟨by simp, ?_⟩
  have hneg : ¬ (u : Int) < 0 := by omega
  have step : ∀ w : Nat, w ≤ u → Int.tmod (w : Int) 10 = ((w % 10 : Nat) : Int) ∧ Int.tdiv (w : Int) 10 = ((w / 10 : Nat) : Int) ∧ Go.IntKind.wrap .i64 (48 + ((w % 10 : Nat) : Int)) = ((48 + w % 10 : Nat) : Int) ∧ Go.IntKind.wrap .u8 ((48 + w % 10 : Nat) : Int) = ((48 + w % 10 : Nat) : Int) ∧ Go.IntKind.wrap .i64 ((w % 10 : Nat) : Int) = ((w % 10 : Nat) : Int) ∧ Go.IntKind.wrap .i64 ((w / 10 : Nat) : Int) = ((w / 10 : Nat) : Int) ∧ ((48 + w % 10 : Nat) : Int) < 256 ∧ (0 : Int) ≤ ((48 + w % 10 : Nat) : Int) := fun w hw => by
    refine ⟨tmod_nat w 10, tdiv_nat w 10, ?_, ?_, ?_, ?_, ?_, ?_⟩
    · rw [wrap_i64 (by omega) (by omega)]; omega
    · exact wrap_u8c _ (by omega)
    · exact wrap_i64 (by omega) (by omega)
    · exact wrap_i64 (by omega) (by omega)
    · omega
    · omega
  obtain ⟨s1, s2, s3, s4, s5, s6, s7, s8⟩ := step u (Nat.le_refl _)
  simp only [↓STEP, SB, looked, behind, lookOk, AAct.kind, AOp.kind, wpRes, evRes, resV, AOp.ev, bin, binI, binS, shiftI, eqV, un, bound, boundO, fill, fillRows, aggOf, keyEq, findKey, putKey, V.cells, V.flat, byteOf, bytesOf, rdOf, H.wr, H.kOf, splice, isYl, ↓reduceIte, Nat.reduceEqDiff, Nat.reduceLeDiff, Nat.reduceLT, Nat.reduceAdd, Nat.reduceSub, Nat.reduceMul, Int.reduceLT, Int.reduceLE, Int.reduceEq, Int.reduceAdd, Int.reduceSub, Int.reduceMul, Int.reduceNeg, Int.reduceToNat, reduceCtorEq, hneg, s1, s2, s3, s4, s5, s6, s7, s8, List.flatten_cons, List.flatten_nil, bseg_tmp1]
  refine wpA_loop_inv (DgLoop h u) ?_ (m := u / 10) ?_
  · rintro w t g ⟨_, s, rfl, hw, e0, e3, hsl, hz, hp, hk⟩
    by_cases hlt : (0 : Int) < (w : Int)
    · obtain ⟨s1, s2, s3, s4, s5, s6, s7, s8⟩ := step w hw
      have hw0 : 0 < w := by omega
      have hp := hp hw0
      have hadd : 1 + s.length ≤ 140737488355328 := by omega
      simp only [↓STEP, SB, looked, behind, lookOk, AAct.kind, AOp.kind, wpRes, evRes, resV, AOp.ev, bin, binI, binS, shiftI, eqV, un, bound, boundO, fill, fillRows, aggOf, keyEq, findKey, putKey, V.cells, V.flat, byteOf, bytesOf, rdOf, H.wr, H.kOf, splice, isYl, ↓reduceIte, Nat.reduceEqDiff, Nat.reduceLeDiff, Nat.reduceLT, Nat.reduceAdd, Nat.reduceSub, Nat.reduceMul, Int.reduceLT, Int.reduceLE, Int.reduceEq, Int.reduceAdd, Int.reduceSub, Int.reduceMul, Int.reduceNeg, Int.reduceToNat, reduceCtorEq, e0, e3, hlt, s1, s2, s3, s4, s5, s6, s7, s8, List.flatten_cons, List.flatten_nil, bseg_tmp1, hadd, List.length_singleton]
      have hs' : (UInt8.ofNat (48 + w % 10) :: s).length ≤ 20 := by
        have h9 := congrArg List.length hp
        rw [List.length_append] at h9
        by_cases h10 : w < 10
        · rw [decD_small h10] at h9; simp at h9 ⊢; omega
        · rw [decD_step (by omega)] at h9; simp at h9 ⊢; omega
      refine ⟨_, Nat.div_lt_self hw0 (by decide), w / 10, UInt8.ofNat (48 + w % 10) :: s, rfl, by omega, by simp [v_pd, v_pd0], by simp [v_pd, v_pd0], hs', fun h0 => ?_, fun h0 => ?_, hk.trans (by (repeat (first | exact Kept.refl | apply Kept.push | refine Kept.kill ?_ (by omega) | refine Kept.set ?_ (by omega))))⟩
      · rw [decD_small (by omega)] at hp
        rw [← hp, Nat.mod_eq_of_lt (by omega)]; rfl
      · rw [decD_step (by omega), List.append_assoc] at hp
        exact hp
    · have hw0 : w = 0 := by omega
      have hz := hz hw0
      subst hz
      simp only [↓STEP, SB, looked, behind, lookOk, AAct.kind, AOp.kind, wpRes, evRes, resV, AOp.ev, bin, binI, binS, shiftI, eqV, un, bound, boundO, fill, fillRows, aggOf, keyEq, findKey, putKey, V.cells, V.flat, byteOf, bytesOf, rdOf, H.wr, H.kOf, splice, isYl, ↓reduceIte, Nat.reduceEqDiff, Nat.reduceLeDiff, Nat.reduceLT, Nat.reduceAdd, Nat.reduceSub, Nat.reduceMul, Int.reduceLT, Int.reduceLE, Int.reduceEq, Int.reduceAdd, Int.reduceSub, Int.reduceMul, Int.reduceNeg, Int.reduceToNat, reduceCtorEq, e0, e3, hlt]
      exact Abs.out rfl rfl hk
  · refine ⟨u / 10, [UInt8.ofNat (48 + u % 10)], rfl, by omega, by simp [v_pd], by simp [v_pd], by simp, fun h0 => ?_, fun h0 => ?_, by (repeat (first | exact Kept.refl | apply Kept.push | refine Kept.kill ?_ (by omega) | refine Kept.set ?_ (by omega)))⟩
    · rw [decD_small (by omega), Nat.mod_eq_of_lt (by omega)]
    · exact (decD_step (by omega)).symm
end Am
