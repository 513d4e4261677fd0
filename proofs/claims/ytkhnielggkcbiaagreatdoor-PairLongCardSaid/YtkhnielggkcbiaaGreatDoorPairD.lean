/- The law PairLong at its seat: a tick of a pair without times, whatever the heap. -/
import Derived.Test.YtkhnielggkcbiaaGreatDoorPairK
import Derived.Test.YtkhnielggkcbiaaGreatDoorPair1
namespace Go.Proofs.YtkhnielggkcbiaaGreatDoor.PairK
open Am
set_option linter.all false
set_option maxRecDepth 100000
set_option maxHeartbeats 8000000
noncomputable def prG : Prog := prB.add 109 (gRl NextR)
theorem okG : ProgOk Tryz.prog prG := okB.add (af := Am.c_timer_Set_next) (by kernel_rfl) next_ok
noncomputable def prH : Prog := prG.add 71 (gDue 108)
theorem okH : ProgOk Tryz.prog prH := okG.add (af := Am.c_timer_Set_Due 108) (by kernel_rfl) due_ok
noncomputable def prI : Prog := prH.add 67 gFlush
theorem okI : ProgOk Tryz.prog prI := okH.add (af := Am.c_endpoint_End_flush) (by kernel_rfl) flush_ok
noncomputable def prT : Prog := prI.add 35 (gRl TickZ)
theorem okT : ProgOk Tryz.prog prT := by
  refine okI.addRl (af := Am.c_endpoint_End_Tick 71 72 67) (by kernel_rfl) (by kernel_rfl) ?_
  exact tickZ_runs (kD := 71) (kd := 72) (kf := 67) (k1 := 108) (kn := 109) (ks := 110) (by kernel_rfl) (by kernel_rfl) rfl rfl (by kernel_rfl) (by kernel_rfl) rfl
noncomputable def prV : Prog := prT.add 21 gEnd0
theorem okV : ProgOk Tryz.prog prV := okT.add (af := Am.c_pair_Pair_end) (by kernel_rfl) end0_ok
noncomputable def prW : Prog := prV.add 33 gNoted0
theorem okW : ProgOk Tryz.prog prW := okV.add (af := Am.c_pair_noted) (by kernel_rfl) noted0_ok
noncomputable def prS : Prog := prW.add 17 (gRl ShipR)
theorem okS : ProgOk Tryz.prog prS := okW.addFor shipX
def cl (l : List V) : Nat → V := fun i => l.getD i .un
def rowOf : Option Blk → List V
  | some (.rows _ [r] _) => r
  | _ => []
theorem ship_one : ShipR.One := by
  refine shift_one (k := 37) PB_len (fun d d' m m' h => ?_) (fun d d' m h _ => ?_)
  · simp only [List.cons.injEq, V.p.injEq, Option.some.injEq, Prod.mk.injEq, and_true] at h; omega
  · exact ⟨rfl, h⟩
/-- What the client's end, and the server's, hold. -/
def cC (now : Int) (n : Nat) : Nat → V := cl (rowOf ((PB now n)[17]?))
def cS (now : Int) (n : Nat) : Nat → V := cl (rowOf ((PB now n)[33]?))
theorem obj_live {h : H} {off : Nat} {now : Int} (ho : ObjAt h off (PB now off)) {i : Nat} (hi : i < 37) : (h.get (off + i)).isSome = true := by
  have hl : i < (PB now off).length := by rw [PB_len]; exact hi
  rw [ho.2 i _ (List.getElem?_eq_getElem hl)]; rfl
theorem row_live {h : H} {off : Nat} {now : Int} (ho : ObjAt h off (PB now off)) {i k : Nat} {r : List V} (hx : (PB now off)[i]? = some (.rows k [r] false)) : ∀ v ∈ r, Live h v := by
  intro v hv
  obtain ⟨j, hj⟩ := List.getElem?_of_mem hv
  obtain ⟨w, hw, q⟩ := V.rels_get (PB_rel now off off i _ _ hx hx).2.2.1 hj
  rw [hj] at hw; cases hw
  refine V.rel_mono ?_ q
  rintro a b ⟨i, hi, rfl, rfl⟩
  have := ho.1
  rw [PB_len] at this
  exact ⟨rfl, by omega, obj_live ho hi⟩
theorem endC_z {h : H} {off : Nat} {now : Int} (ho : ObjAt h off (PB now off)) : EndZ h (off + 17) (off + 16) (cC now off) (fun _ => 0) (fun _ => false) now := by
  have h1 := ho.1
  rw [PB_len] at h1
  refine ⟨by omega, ho.2 17 _ rfl, rfl, rfl, rfl, by omega, by omega, ho.2 16 _ rfl, fun i _ => rfl, rfl, fun i hi => ?_⟩
  refine row_live ho (i := 17) rfl _ ?_
  show cC now off i ∈ rowOf ((PB now off)[17]?)
  unfold cC cl
  have hlen : (rowOf ((PB now off)[17]?)).length = 23 := rfl
  have hg : (rowOf ((PB now off)[17]?))[i]? = some ((rowOf ((PB now off)[17]?))[i]'(by rw [hlen]; exact hi)) := List.getElem?_eq_getElem _
  rw [List.getD_eq_getElem?_getD, hg]
  exact List.getElem_mem _
theorem endS_z {h : H} {off : Nat} {now : Int} (ho : ObjAt h off (PB now off)) : EndZ h (off + 33) (off + 32) (cS now off) (fun _ => 0) (fun _ => false) now := by
  have h1 := ho.1
  rw [PB_len] at h1
  refine ⟨by omega, ho.2 33 _ rfl, rfl, rfl, rfl, by omega, by omega, ho.2 32 _ rfl, fun i _ => rfl, rfl, fun i hi => ?_⟩
  refine row_live ho (i := 33) rfl _ ?_
  show cS now off i ∈ rowOf ((PB now off)[33]?)
  unfold cS cl
  have hlen : (rowOf ((PB now off)[33]?)).length = 23 := rfl
  have hg : (rowOf ((PB now off)[33]?))[i]? = some ((rowOf ((PB now off)[33]?))[i]'(by rw [hlen]; exact hi)) := List.getElem?_eq_getElem _
  rw [List.getD_eq_getElem?_getD, hg]
  exact List.getElem_mem _
/-- The blocks a tick later. -/
theorem PB_next {now : Int} {n i : Nat} {x : Blk} (hx : (PB (now + 1) n)[i]? = some x) : some x = if n + i = n + 33 then some (.rows 23 [eRow (upd (cS now n) 12 (.i .i64 (now + 1)))] false) else if n + i = n + 17 then some (.rows 23 [eRow (upd (cC now n) 12 (.i .i64 (now + 1)))] false) else if n + i = n + 2 then some (.rows 5 [pRow (.p (some (n + 17, 0, 0))) (.p (some (n + 33, 0, 0))) (.p (some (n + 0, 0, 0))) (.p (some (n + 1, 0, 0))) (now + 1)] false) else (PB now n)[i]? := by
  by_cases h1 : i = 33
  · subst h1; rw [if_pos rfl]; exact hx.symm.trans rfl
  · rw [if_neg (by omega)]
    by_cases h2 : i = 17
    · subst h2; rw [if_pos rfl]; exact hx.symm.trans rfl
    · rw [if_neg (by omega)]
      by_cases h3 : i = 2
      · subst h3; rw [if_pos rfl]; exact hx.symm.trans rfl
      · rw [if_neg (by omega), ← hx]
        match i, h1, h2, h3 with
        | 0, _, _, _ => rfl
        | 1, _, _, _ => rfl
        | 2, _, _, h => exact absurd rfl h
        | 3, _, _, _ => rfl
        | 4, _, _, _ => rfl
        | 5, _, _, _ => rfl
        | 6, _, _, _ => rfl
        | 7, _, _, _ => rfl
        | 8, _, _, _ => rfl
        | 9, _, _, _ => rfl
        | 10, _, _, _ => rfl
        | 11, _, _, _ => rfl
        | 12, _, _, _ => rfl
        | 13, _, _, _ => rfl
        | 14, _, _, _ => rfl
        | 15, _, _, _ => rfl
        | 16, _, _, _ => rfl
        | 17, _, h, _ => exact absurd rfl h
        | 18, _, _, _ => rfl
        | 19, _, _, _ => rfl
        | 20, _, _, _ => rfl
        | 21, _, _, _ => rfl
        | 22, _, _, _ => rfl
        | 23, _, _, _ => rfl
        | 24, _, _, _ => rfl
        | 25, _, _, _ => rfl
        | 26, _, _, _ => rfl
        | 27, _, _, _ => rfl
        | 28, _, _, _ => rfl
        | 29, _, _, _ => rfl
        | 30, _, _, _ => rfl
        | 31, _, _, _ => rfl
        | 32, _, _, _ => rfl
        | 33, h, _, _ => exact absurd rfl h
        | 34, _, _, _ => rfl
        | 35, _, _, _ => rfl
        | 36, _, _, _ => rfl
        | i + 37, _, _, _ => rfl
theorem obj_keep {h g : H} {off : Nat} {xs : List Blk} (ho : ObjAt h off xs) (hn : h.nx ≤ g.nx) (hk : ∀ i, i < h.nx → g.get i = h.get i) : ObjAt g off xs :=
  ⟨Nat.le_trans ho.1 hn, fun i x hx => by
    have := (List.getElem?_eq_some_iff.1 hx).1
    have := ho.1
    rw [hk _ (by omega)]; exact ho.2 i x hx⟩
theorem do_runs : ∀ ys h v h', DoR PB 2 ys h v h' → Runs prS (.fn 11) ys h (fun v1 h1 => Abs h v1 h1 v h') := by
  rintro ys h v h' ⟨now, off, ⟨n0, n1⟩, hoff, ho, rfl, rfl, rfl⟩
  have hfit := ho.1
  rw [PB_len] at hfit
  have hp := ho.2 2 _ rfl
  refine runs_of_wpF (pr := prS) (by kernel_rfl) (af := Am.c_pair_Pair_Do 19 20 17) (by kernel_rfl) ?_
  have x1 := @wpCall_ext prS 17 _ rfl
  have ho1 : ObjAt (h.push (.rows 12 [tickS] false)) off (PB now off) := obj_keep ho (Nat.le_succ _) (fun i hi => by rw [H.get_push, if_neg (by omega)])
  have M := runs_of_wpF (pr := prS) (f := 19) (af := Am.c_pair_Pair_may) (by kernel_rfl) (by kernel_rfl) (may_runs (ho1.2 2 _ rfl) (by show off + 2 < h.nx + 1; omega) n0 n1)
  have hb : (h.push (.rows 12 [tickS] false)).get h.nx = some (.rows 12 [tickS] false) := by rw [H.get_push, if_pos rfl]
  have hbn : (h.push (.rows 12 [tickS] false)).nx = h.nx + 1 := rfl
  have hbk : ∀ i, i < h.nx → (h.push (.rows 12 [tickS] false)).get i = h.get i := fun i hi => by rw [H.get_push, if_neg (by omega)]
  have D : ∀ g1, Kept (h.push (.rows 12 [tickS] false)) g1 → Runs prS (.fn 20) [.p (some (off + 2, 0, 0)), .agg tickS] g1 (fun v g => v = .tup [nilS, .i .i64 0] ∧ g1.nx ≤ g.nx ∧ ObjAt g off (PB (now + 1) off) ∧ ∀ i x, (∀ j, j < 37 → i ≠ off + j) → h.get i = some x → i < h.nx → g.get i = some x) := by
    intro g1 hk
    have o1 : ObjAt g1 off (PB now off) := obj_keep ho1 hk.1 (fun i hi => hk.2 i hi)
    have l1 := o1.1
    rw [PB_len] at l1
    refine runs_of_wpF (pr := prS) (af := Am.c_pair_Pair_does 21 31 32 33 34 35 36 37 38) (by kernel_rfl) (by kernel_rfl) (wpF_mono' (does_runs rfl rfl rfl (o1.2 2 _ rfl) (by omega) n0 n1 (endC_z o1) (endS_z o1) (by omega) (by omega) (by omega) (by omega) (by omega) (by omega)) ?_)
    rintro v g ⟨rfl, hn, hg⟩
    refine ⟨rfl, hn, ⟨by rw [PB_len]; omega, fun i x hx => ?_⟩, fun i x hne hx hi => ?_⟩
    · have hi := (List.getElem?_eq_some_iff.1 hx).1
      rw [PB_len] at hi
      have q := PB_next hx
      rw [hg _ (by omega), q]
      by_cases h1 : off + i = off + 33
      · rw [if_pos h1, if_pos h1]
      · rw [if_neg h1, if_neg h1]
        by_cases h2 : off + i = off + 17
        · rw [if_pos h2, if_pos h2]
        · rw [if_neg h2, if_neg h2]
          by_cases h3 : off + i = off + 2
          · rw [if_pos h3, if_pos h3]
          · rw [if_neg h3, if_neg h3]
            have hl : i < (PB now off).length := by rw [PB_len]; exact hi
            have := o1.2 i _ (List.getElem?_eq_getElem hl)
            rw [this, List.getElem?_eq_getElem hl]
    · have hkn := hk.1
      rw [hbn] at hkn
      rw [hg _ (by omega), if_neg (hne 33 (by omega)), if_neg (hne 17 (by omega)), if_neg (hne 2 (by omega)), hk.2 i (by rw [hbn]; omega), hbk i hi]; exact hx
  generalize hH : h.push (.rows 12 [tickS] false) = H1 at *
  unfold tickS at hb hH M D
  unfold tickS
  unfold wpF c_pair_Pair_Do
  refine ⟨by simp, ?_⟩
  simp only [↓STEP, SB, looked, behind, lookOk, AAct.kind, AOp.kind, wpRes, evRes, resV, AOp.ev, bin, binI, binS, shiftI, eqV, un, bound, boundO, fill, fillRows, aggOf, keyEq, findKey, putKey, V.cells, V.flat, byteOf, bytesOf, rdOf, H.wr, H.kOf, splice, isYl, ↓reduceIte, Nat.reduceEqDiff, Nat.reduceLeDiff, Nat.reduceLT, Nat.reduceAdd, Nat.reduceSub, Nat.reduceMul, Int.reduceLT, Int.reduceLE, Int.reduceEq, Int.reduceAdd, Int.reduceSub, Int.reduceMul, Int.reduceNeg, Int.reduceToNat, reduceCtorEq, hH, hb]
  refine Runs.mono M ?_
  rintro v1 g1 ⟨rfl, hk1⟩
  have gb := (hk1.2 h.nx (by rw [hbn]; omega)).trans hb
  simp only [↓STEP, SB, looked, behind, lookOk, AAct.kind, AOp.kind, wpRes, evRes, resV, AOp.ev, bin, binI, binS, shiftI, eqV, un, bound, boundO, fill, fillRows, aggOf, keyEq, findKey, putKey, V.cells, V.flat, byteOf, bytesOf, rdOf, H.wr, H.kOf, splice, isYl, ↓reduceIte, Nat.reduceEqDiff, Nat.reduceLeDiff, Nat.reduceLT, Nat.reduceAdd, Nat.reduceSub, Nat.reduceMul, Int.reduceLT, Int.reduceLE, Int.reduceEq, Int.reduceAdd, Int.reduceSub, Int.reduceMul, Int.reduceNeg, Int.reduceToNat, reduceCtorEq, gb]
  refine Runs.mono (D g1 hk1) ?_
  rintro v2 g2 ⟨rfl, n2, o2, q2⟩
  have y1 : gRl ShipR [.p (some (off + 2, 0, 0))] g2 = some (.un, layAll g2 off (PB (now + 1) off)) := gRl_at ship_one ⟨now + 1, off, trivial, hoff, o2, rfl, rfl, rfl⟩
  simp only [↓STEP, SB, looked, behind, lookOk, AAct.kind, AOp.kind, wpRes, evRes, resV, AOp.ev, bin, binI, binS, shiftI, eqV, un, bound, boundO, fill, fillRows, aggOf, keyEq, findKey, putKey, V.cells, V.flat, byteOf, bytesOf, rdOf, H.wr, H.kOf, splice, isYl, ↓reduceIte, Nat.reduceEqDiff, Nat.reduceLeDiff, Nat.reduceLT, Nat.reduceAdd, Nat.reduceSub, Nat.reduceMul, Int.reduceLT, Int.reduceLE, Int.reduceEq, Int.reduceAdd, Int.reduceSub, Int.reduceMul, Int.reduceNeg, Int.reduceToNat, reduceCtorEq, x1, y1, List.getElem?_cons_zero, List.getElem?_cons_succ]
  refine Abs.obj (PB_len _ _) hfit (fun i hi => obj_live ho hi) (fun i x hx => PB_rel (now + 1) off off i x x hx hx) (fun i x hx => ?_) (fun b x hb hne hx => ?_) ⟨⟨rfl, rfl, rfl⟩, ⟨rfl, rfl⟩, trivial⟩
  · have hi := (List.getElem?_eq_some_iff.1 hx).1
    rw [PB_len] at hi
    rw [layAll_get, PB_len, if_pos (by omega), Nat.add_sub_cancel_left]; exact hx
  · rw [layAll_get, PB_len, if_neg (fun q => hne (b - off) (by omega) (by omega))]
    exact q2 b x hne hx hb
noncomputable def prX : Prog := prS.add 11 (gRl (DoR PB 2))
theorem okX : ProgOk Tryz.prog prX := okS.addRl (af := Am.c_pair_Pair_Do 19 20 17) (by kernel_rfl) (by kernel_rfl) do_runs
theorem do_one : (DoR PB 2).One := by
  refine shift_one (k := 37) PB_len (fun d d' m m' h => ?_) (fun d d' m h _ => ?_)
  · simp only [List.cons.injEq, V.p.injEq, Option.some.injEq, Prod.mk.injEq, and_true] at h; omega
  · have e : (PB d m)[2]? = (PB d' m)[2]? := by rw [h]
    have e : d = d' := by
      injection e with e; injection e with _ e _; injection e with e _
      simp only [List.cons.injEq, V.i.injEq, and_true, true_and] at e
      exact e
    rw [e]; exact ⟨rfl, rfl⟩
noncomputable def gPNew (ys : List V) (h : H) : Option (V × H) :=
  open Classical in if ys = [vPlain] then some (vNew h.nx, pushAll h (PB 0 h.nx)) else if ys = [vBad] then some (.tup [.p none, .i .i64 1], h) else none
theorem pnewX : ExtFor Tryz.prog 8 gPNew := by
  intro ys h v h' hg
  unfold gPNew at hg
  split at hg
  · rename_i hy
    exact newX ys h v h' (by unfold gMake; rw [if_pos hy]; exact hg)
  · split at hg
    · rename_i hy
      exact badX ys h v h' (by unfold gMake; rw [if_pos hy]; exact hg)
    · cases hg
noncomputable def prY : Prog := (prX.add 5 (xConst vPlain)).add 8 gPNew
theorem okY : ProgOk Tryz.prog prY := (okX.addFor plainX).addFor pnewX
end Go.Proofs.YtkhnielggkcbiaaGreatDoor.PairK
