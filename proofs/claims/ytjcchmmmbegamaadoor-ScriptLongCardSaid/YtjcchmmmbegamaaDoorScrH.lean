/- Steps as arguments. The law ScriptWrite. -/
import Derived.Test.YtjcchmmmbegamaaDoorScrG2
import Derived.Test.YtjcchmmmbegamaaDoorScrT
import Derived.Test.YtjcchmmmbegamaaDoorAmBulk
import Derived.Test.YtjcchmmmbegamaaDoorScrF
namespace Am
set_option linter.unusedVariables false
set_option linter.unusedSimpArgs false
set_option maxRecDepth 20000
set_option maxHeartbeats 8000000
variable {pr : Prog}

/-- Whole numbers in their range. -/
structure SpI (s : Sp) : Prop where
  k : i64In s.k
  r : i64In s.r
  i : i64In s.i
  n : i64In s.n
  c : ∀ c, c ∈ s.cs → i64In c
theorem gWr_eq {Z : H → Int → Bool} {h : H} {p : Option (Nat × Nat)} {n c : Nat} {ex : Bool} {ss : List Sp} (hst : stepsIn h p n ss) (ok : ∀ s ∈ ss, SpOk Z h s) : gWr Z [.sl p n c ex] h = some (writeV ss, h) := by
  have hl := hst.1
  unfold gWr
  simp only
  by_cases hn : 4096 < n
  · rw [if_pos hn]
    unfold writeV
    rw [if_pos (by omega)]
  · rw [if_neg hn]
    simp only [rdSps_of hst]
    rw [if_pos (List.all_eq_true.2 fun s hs => okB_of (ok s hs))]
theorem writeV_two (ss : List Sp) : ∃ x y, writeV ss = .tup [.s x, .i .i64 y] := by
  unfold writeV
  split
  · exact ⟨_, _, rfl⟩
  · split
    · exact ⟨_, _, rfl⟩
    · split <;> exact ⟨_, _, rfl⟩
theorem writeR_ok {Z : H → Int → Bool} (hZ : Zok Z) {kl : Nat} (hl : pr.ext kl = some (gLineS Z)) : OkF pr (c_isthmusref23_Write kl) (gWr Z) := by
  intro ys h v h' hg
  unfold gWr at hg
  split at hg
  case h_2 => cases hg
  rename_i p n c ex
  split at hg
  · rename_i hn
    cases hg
    have hbig : (4096 : Int) < (n : Int) := by omega
    unfold wpF c_isthmusref23_Write
    refine ⟨by simp, ?_⟩
    simp only [↓STEP, SB, looked, behind, lookOk, AAct.kind, AOp.kind, wpRes, evRes, resV, AOp.ev, bin, binI, binS, shiftI, eqV, un, bound, boundO, fill, fillRows, aggOf, keyEq, findKey, putKey, V.cells, V.flat, byteOf, bytesOf, rdOf, H.wr, H.kOf, splice, isYl, ↓reduceIte, Nat.reduceEqDiff, Nat.reduceLeDiff, Nat.reduceLT, Nat.reduceAdd, Nat.reduceSub, Nat.reduceMul, Int.reduceLT, Int.reduceLE, Int.reduceEq, Int.reduceAdd, Int.reduceSub, Int.reduceMul, Int.reduceNeg, Int.reduceToNat, reduceCtorEq, hbig]
    exact Abs.out rfl rfl Kept.refl
  · split at hg
    · rename_i ss hs
      split at hg
      · rename_i hok
        cases hg
        refine wpF_mono (writeR_wp hZ hl (rdSps_in hs) (fun s hs => okB_ok (List.all_eq_true.1 hok s hs)) (by omega)) fun v g hv => Abs.out hv.1 ?_ hv.2
        obtain ⟨x, y, e⟩ := writeV_two ss
        rw [e]; rfl
      · cases hg
    · cases hg
theorem lineR_ok {Z : H → Int → Bool} {kf ke kr kd kt : Nat} (hf : pr.ext kf = some gFld) (he : pr.ext ke = some gEnd) (hr : pr.ext kr = some gRole) (hd : pr.ext kd = some gDigR) (ht : pr.ext kt = some gTx2) : OkF pr (c_isthmusref23_Line kf ke kr kd kt) (gLineS Z) := by
  intro ys h v h' hg
  unfold gLineS at hg
  split at hg
  case h_2 => cases hg
  rename_i row
  split at hg
  · rename_i s hs
    split at hg
    · rename_i hok
      cases hg
      exact wpF_mono (lineR_wp hf he hr hd ht (spOf_row hs) (okB_ok hok)) fun v g hv => Abs.out hv.1 (lineV_plain s) hv.2
    · cases hg
  · cases hg
end Am
