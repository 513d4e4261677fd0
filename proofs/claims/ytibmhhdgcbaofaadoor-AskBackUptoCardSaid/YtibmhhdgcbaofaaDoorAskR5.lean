/- What a whole request asks. -/
import Derived.Test.YtibmhhdgcbaofaaDoorAskR4
namespace Am
set_option linter.unusedVariables false
set_option linter.unusedSimpArgs false
set_option maxRecDepth 20000
set_option maxHeartbeats 8000000
variable {pr : Prog}

theorem app_tmp {g : H} {k bytes b0 n0 : Nat} {old new : List (List V)} (hg : g.get b0 = some (.rows k old false)) (hlt : b0 < g.nx) (hn0 : n0 = old.length) (h0 : 0 < n0) (hb : 0 < bytes) (hb2 : bytes ≤ 1048576) (hn : (n0 + new.length) * bytes ≤ 35184372088832) :
    ∃ a' c' ex' g', appRows g k bytes (some (b0, 0)) n0 n0 true new = some (.sl a' (n0 + new.length) c' ex', g') ∧ Kept g g' ∧ rowsIn g' k a' (n0 + new.length) (old ++ new) := by
  unfold appRows
  by_cases he : new = []
  · subst he
    refine ⟨_, _, _, g, by rw [if_pos (by simp)]; unfold H.rput; rw [if_pos rfl, Option.bind_some], Kept.refl, by simp [hn0], .inr ⟨b0, 0, old, false, rfl, hlt, hg, fun i row hi => by rw [Nat.zero_add]; simpa using hi⟩⟩
  · have hl : 0 < new.length := List.length_pos_iff.2 he
    have hr : roomOk (n0 + new.length) bytes = true := by unfold roomOk; simp [hb, hb2, hn]
    have hs : g.rseg k (some (b0, 0)) n0 = some old := by
      unfold H.rseg
      rw [if_neg (by omega)]
      simp only [hg]
      rw [if_pos ⟨trivial, by omega⟩, List.drop_zero, hn0, List.take_length]
    refine ⟨some (g.nx, 0), n0 + new.length, false, g.push (.rows k (old ++ new) false), ?_, Kept.push Kept.refl, by rw [List.length_append, hn0], .inr ⟨g.nx, 0, old ++ new, false, rfl, Nat.lt_succ_self _, by rw [H.get_push, if_pos rfl], fun i row hi => by rw [Nat.zero_add]; exact hi⟩⟩
    rw [if_neg (by omega), if_pos hr, hs, Option.bind_some]
    unfold H.loseR
    rw [if_pos rfl, Option.bind_some]

theorem rseg_kept {h g : H} {k n : Nat} {a : Option (Nat × Nat)} {l : List (List V)} (hr : h.rseg k a n = some l) (hb : ∀ b, blkOf a = some b → b < h.nx) (hk : Kept h g) : g.rseg k a n = some l := by
  unfold H.rseg at hr ⊢
  by_cases h0 : n = 0
  · rw [if_pos h0] at hr ⊢; exact hr
  · rw [if_neg h0] at hr ⊢
    cases a with
    | none => exact hr
    | some q =>
      obtain ⟨b, r⟩ := q
      simp only [hk.2 b (hb b rfl)]
      exact hr
theorem rowsIn_set {g : H} {k n i : Nat} {a : Option (Nat × Nat)} {rs : List (List V)} {X : Blk} (hr : rowsIn g k a n rs) (hne : ∀ b r all ro, a = some (b, r) → g.get b = some (.rows k all ro) → (∀ i row, rs[i]? = some row → all[r + i]? = some row) → 0 < n → b ≠ i) : rowsIn (g.set i X) k a n rs := by
  obtain ⟨l, r⟩ := hr
  by_cases h0 : n = 0
  · exact ⟨l, .inl h0⟩
  · obtain ⟨b, s, all, ro, e, hb, hg, hat⟩ := r.resolve_left h0
    exact ⟨l, .inr ⟨b, s, all, ro, e, hb, by rw [H.get_set, if_neg (hne b s all ro e hg hat (by omega))]; exact hg, hat⟩⟩
def howT : List UInt8 := [85, 112, 103, 114, 97, 100, 101, 44, 32, 72, 84, 84, 80, 50, 45, 83, 101, 116, 116, 105, 110, 103, 115]
def h2cT : List UInt8 := [104, 50, 99]
def httpT : List UInt8 := [104, 116, 116, 112]
def linM (hv sv : List UInt8) : PM := [(kHost, hv), (kConn, howT), (kUpg, h2cT), (kSet, sv)]
def fsOf (m hv p : List UInt8) (rest : List Fd) : List Fd := ⟨kMethod, m, false⟩ :: ⟨kScheme, httpT, false⟩ :: ⟨kAuth, hv, false⟩ :: ⟨kPath, p, false⟩ :: rest
def AskedPost (h : H) (fs : List Fd) (ss : List St) (used : Nat) (v : V) (g : H) : Prop :=
  Kept h g ∧ ∃ a n c ex q m c2 ex2, v = .tup [.agg [.sl a n c ex, .sl q m c2 ex2, .i .i64 used], .i .i64 0] ∧ rowsIn g 3 a n (fs.map Fd.row) ∧ rowsIn g 2 q m (ss.map St.row)

theorem asked_runs {kd ka kg kt kr kf kq kpl kb ks kcl kpr kn kpd kk : Nat} (hA : pr.ext kk = none) (hfn : pr.fn kk = some (c_upgrade_request_asked kd ka kg kf kq)) (hd : pr.ext kd = some gDec) (hall : pr.ext ka = some (gAllB kg kt kr)) (hq : pr.ext kq = some (gTell reqP))
    (hfA : pr.ext kf = none) (hff : pr.fn kf = some (c_frame_Read kpl kb ks kcl kpr kn)) (hpl : pr.ext kpl = some gPlace) (hbA : pr.ext kb = none) (hbf : pr.fn kb = some (c_frame_bare kpd)) (hpd : pr.ext kpd = some gPadded) (hs : pr.ext ks = some gSized) (hn : pr.ext kn = some gNum)
    {g : H} {b bm k used : Nat} {m p hv sv : List UInt8} {a : Option (Nat × Nat)} {ex : Bool} {ss : List St} {rest : List Fd}
    (hb : g.get b = some (reqRow m p a k ex bm)) (hbm : g.get bm = some (.map (ents (linM hv sv)))) (h1 : b < g.nx) (h2 : bm < g.nx) (hrows : g.rseg 3 a k = some (rest.map Fd.row)) (hal : ∀ x, blkOf a = some x → x < g.nx) (hkl : k = rest.length) (hk : k ≤ 100000)
    (hsv : decP sv = some (setB ss)) (hsl : sv.length ≤ 100000) (hok : ss.all okSt = true) (hsm : ss.length ≤ 1000000) (hhv : hv ≠ []) (hhl : hv.length ≤ 1000000) (hg : allP chG hv = true) (hu : used ≤ 16384) (hreq : tellP reqP (fsOf m hv p rest) = true) :
    Runs pr (.fn kk) [.p (some (b, 0, 0)), .i .i64 used] g (AskedPost g (fsOf m hv p rest) ss used) := by
  have xd := @wpCall_ext pr kd _ hd
  have xa := @wpCall_ext pr ka _ hall
  have xq := @wpCall_ext pr kq _ hq
  have f1 : findKey .str (.s [104, 111, 115, 116]) (ents (linM hv sv)) = some (some (.s hv)) := by rw [findKey_ents]; rfl
  have f2 : findKey .str (.s [104, 116, 116, 112, 50, 45, 115, 101, 116, 116, 105, 110, 103, 115]) (ents (linM hv sv)) = some (some (.s sv)) := by rw [findKey_ents]; rfl
  have f3 : findKey .str (.s [99, 111, 110, 110, 101, 99, 116, 105, 111, 110]) (ents (linM hv sv)) = some (some (.s howT)) := by rw [findKey_ents]; rfl
  have f4 : findKey .str (.s [117, 112, 103, 114, 97, 100, 101]) (ents (linM hv sv)) = some (some (.s h2cT)) := by rw [findKey_ents]; rfl
  generalize linM hv sv = M at *
  have n1 : b ≠ g.nx := by omega
  have n2 : bm ≠ g.nx := by omega
  have yd := gDec_some (h := g.push (.rows 3 [[.sl none 0 0 true, .sl none 0 0 true, .i .i64 0]] false)) (l := sv) (by omega) hsv
  obtain ⟨fa, fn, fex, g1, q1, q2, q3, q4⟩ := outV_rd (g.push (.rows 3 [[.sl none 0 0 true, .sl none 0 0 true, .i .i64 0]] false)) (setB ss) [.i .i64 0]
  rw [q1] at yd
  have hg1 : g1.get b = some (reqRow m p a k ex bm) := by rw [q4.2 b (by show b < g.nx + 1; omega), H.get_push, if_neg n1]; exact hb
  have hg1m : g1.get bm = some (.map (ents M)) := by rw [q4.2 bm (by show bm < g.nx + 1; omega), H.get_push, if_neg n2]; exact hbm
  have hg1r : g1.get g.nx = some (.rows 3 [[.sl none 0 0 true, .sl none 0 0 true, .i .i64 0]] false) := by rw [q4.2 _ (Nat.lt_succ_self _), H.get_push, if_pos rfl]
  have hnx1 : g.nx + 1 ≤ g1.nx := q4.1
  have hkg : Kept g g1 := Kept.trans (Kept.push Kept.refl) q4
  have ya : ∀ G, gAllB kg kt kr [.s hv, .f (.fn kg) []] G = some (.b true, G) := fun G => by
    unfold gAllB; simp only; rw [if_pos (by omega)]; simp [hg]
  have hrem : Int.tmod (fn : Int) 6 = 0 := by
    rw [q2, setB_len]
    have := tmod_nat (6 * ss.length) 6
    rw [Nat.mul_mod_right] at this
    exact this
  have hu' : ¬ (16384 : Int) < (used : Int) := by omega
  unfold reqRow at hb hg1
  have hhv' : ¬ hv = [] := hhv
  have e3 : (howT = [85, 112, 103, 114, 97, 100, 101, 44, 32, 72, 84, 84, 80, 50, 45, 83, 101, 116, 116, 105, 110, 103, 115]) = True := eq_true rfl
  have e4 : (h2cT = [104, 50, 99]) = True := eq_true rfl
  have ble1 : Nat.ble (g.nx + 1) g1.nx = true := by simpa using hnx1
  refine runs_of_wpF hA hfn ?_
  unfold wpF c_upgrade_request_asked
  refine ⟨by simp, ?_⟩
  simp only [↓STEP, SB, looked, behind, lookOk, AAct.kind, AOp.kind, wpRes, evRes, resV, AOp.ev, bin, binI, binS, shiftI, eqV, un, bound, boundO, fill, fillRows, aggOf, keyEq, findKey, putKey, V.cells, V.flat, byteOf, bytesOf, rdOf, H.wr, H.kOf, splice, isYl, ↓reduceIte, Nat.reduceEqDiff, Nat.reduceLeDiff, Nat.reduceLT, Nat.reduceAdd, Nat.reduceSub, Nat.reduceMul, Int.reduceLT, Int.reduceLE, Int.reduceEq, Int.reduceAdd, Int.reduceSub, Int.reduceMul, Int.reduceNeg, Int.reduceToNat, reduceCtorEq, hb, hbm, n1, n2, f1, f2, f3, f4, xd, yd, hg1, hg1m, hrem, wlits, hhv', xa, ya, e3, e4, hu', ble1]
  refine Runs.mono (c := .fn kf) («as» := [.agg [.i .i64 4, .i .i64 0, .i .i64 0, .sl fa fn fn fex]] ++ []) (fread_runs (kpd := kpd) hfA hff hpl hbA hbf hpd hs hn (h := g1) q3 (Nat.le_refl _) hok hsm) ?_
  rintro v g2 ⟨hk2, sq, sm, sex, rfl, hsr⟩
  have hg2 := (hk2.2 b (by omega)).trans hg1
  have hg2r := (hk2.2 g.nx (by omega)).trans hg1r
  have hnx2 := hk2.1
  have n3 : b ≠ g2.nx := by omega
  have n4 : b ≠ g2.nx + 1 := by omega
  have n5 : g.nx ≠ g2.nx := by omega
  have n6 : g.nx ≠ g2.nx + 1 := by omega
  have hkg2 := hkg.trans hk2
  have hrl : (rest.map Fd.row).length = rest.length := List.length_map _
  have hrs2 := rseg_kept hrows hal hkg2
  have hlen4 : 4 + (rest.map Fd.row).length = 4 + rest.length := by rw [hrl]
  have hmap : (fsOf m hv p rest).map Fd.row = [[V.s [58, 109, 101, 116, 104, 111, 100], V.s m, V.b false], [V.s [58, 115, 99, 104, 101, 109, 101], V.s [104, 116, 116, 112], V.b false], [V.s [58, 97, 117, 116, 104, 111, 114, 105, 116, 121], V.s hv, V.b false], [V.s [58, 112, 97, 116, 104], V.s p, V.b false]] ++ rest.map Fd.row := rfl
  simp only [↓STEP, SB, looked, behind, lookOk, AAct.kind, AOp.kind, wpRes, evRes, resV, AOp.ev, bin, binI, binS, shiftI, eqV, un, bound, boundO, fill, fillRows, aggOf, keyEq, findKey, putKey, V.cells, V.flat, byteOf, bytesOf, rdOf, H.wr, H.kOf, splice, isYl, ↓reduceIte, Nat.reduceEqDiff, Nat.reduceLeDiff, Nat.reduceLT, Nat.reduceAdd, Nat.reduceSub, Nat.reduceMul, Int.reduceLT, Int.reduceLE, Int.reduceEq, Int.reduceAdd, Int.reduceSub, Int.reduceMul, Int.reduceNeg, Int.reduceToNat, reduceCtorEq, bodyS, hg2, n3, n4]
  generalize hG : H.push (H.set (H.push g2 _) _ _) _ = G
  have kG : Kept g2 G := by rw [← hG]; (repeat (first | exact Kept.refl | apply Kept.push | refine Kept.kill ?_ (by omega) | refine Kept.set ?_ (by omega)))
  have nG : G.nx = g2.nx + 2 := by rw [← hG]; rfl
  have gt : G.get (g2.nx + 1) = some (.rows 3 [[V.s [58, 109, 101, 116, 104, 111, 100], V.s m, V.b false], [V.s [58, 115, 99, 104, 101, 109, 101], V.s [104, 116, 116, 112], V.b false], [V.s [58, 97, 117, 116, 104, 111, 114, 105, 116, 121], V.s hv, V.b false], [V.s [58, 112, 97, 116, 104], V.s p, V.b false]] false) := by rw [← hG]; simp only [↓STEP, SB, looked, behind, lookOk, AAct.kind, AOp.kind, wpRes, evRes, resV, AOp.ev, bin, binI, binS, shiftI, eqV, un, bound, boundO, fill, fillRows, aggOf, keyEq, findKey, putKey, V.cells, V.flat, byteOf, bytesOf, rdOf, H.wr, H.kOf, splice, isYl, ↓reduceIte, Nat.reduceEqDiff, Nat.reduceLeDiff, Nat.reduceLT, Nat.reduceAdd, Nat.reduceSub, Nat.reduceMul, Int.reduceLT, Int.reduceLE, Int.reduceEq, Int.reduceAdd, Int.reduceSub, Int.reduceMul, Int.reduceNeg, Int.reduceToNat, reduceCtorEq]
  have go : G.get g2.nx = some (.rows 11 [bodyS sq sm sm sex] false) := by rw [← hG]; simp only [↓STEP, SB, looked, behind, lookOk, AAct.kind, AOp.kind, wpRes, evRes, resV, AOp.ev, bin, binI, binS, shiftI, eqV, un, bound, boundO, fill, fillRows, aggOf, keyEq, findKey, putKey, V.cells, V.flat, byteOf, bytesOf, rdOf, H.wr, H.kOf, splice, isYl, ↓reduceIte, Nat.reduceEqDiff, Nat.reduceLeDiff, Nat.reduceLT, Nat.reduceAdd, Nat.reduceSub, Nat.reduceMul, Int.reduceLT, Int.reduceLE, Int.reduceEq, Int.reduceAdd, Int.reduceSub, Int.reduceMul, Int.reduceNeg, Int.reduceToNat, reduceCtorEq, show g2.nx ≠ g2.nx + 1 by omega]; rfl
  have gr := (kG.2 g.nx (by omega)).trans hg2r
  have rs := rseg_kept hrs2 (fun x hx => by have := hal x hx; omega) kG
  clear hG
  obtain ⟨a', c', ex', g', e1, kg', hrw⟩ := app_tmp (bytes := 40) (new := rest.map Fd.row) gt (by omega) rfl (Nat.succ_pos _) (by decide) (by decide) (by simp only [List.length_cons, List.length_nil]; omega)
  simp only [List.length_cons, List.length_nil] at e1 hrw
  rw [← hmap] at hrw
  have go' := (kg'.2 _ (by omega)).trans go
  have gr' := (kg'.2 _ (by omega)).trans gr
  have hnx' := kg'.1
  have ble2 : Nat.ble (g2.nx + 2) g'.nx = true := by simp; omega
  have yq : gTell reqP [.sl a' (0 + 1 + 1 + 1 + 1 + (rest.map Fd.row).length) c' ex'] g' = some (.i .i64 0, g') := by
    rw [gTell_eq, readRows_eq Fd.row_inj hrw (by omega)]
    simp only [Option.bind_some, hreq, if_true]
  unfold bodyS at go'
  generalize 0 + 1 + 1 + 1 + 1 + (rest.map Fd.row).length = N at *
  simp only [↓STEP, SB, looked, behind, lookOk, AAct.kind, AOp.kind, wpRes, evRes, resV, AOp.ev, bin, binI, binS, shiftI, eqV, un, bound, boundO, fill, fillRows, aggOf, keyEq, findKey, putKey, V.cells, V.flat, byteOf, bytesOf, rdOf, H.wr, H.kOf, splice, isYl, ↓reduceIte, Nat.reduceEqDiff, Nat.reduceLeDiff, Nat.reduceLT, Nat.reduceAdd, Nat.reduceSub, Nat.reduceMul, Int.reduceLT, Int.reduceLE, Int.reduceEq, Int.reduceAdd, Int.reduceSub, Int.reduceMul, Int.reduceNeg, Int.reduceToNat, reduceCtorEq, rs, e1, ble2, xq, yq, go', gr']
  refine ⟨by simp, (hkg2.trans (kG.trans kg')).set (Nat.le_refl _), _, _, _, _, _, _, _, _, rfl, rowsIn_set hrw ?_, rowsIn_set (rowsIn_kept hsr (kG.trans kg')) ?_⟩
  · rintro x r all ro hx hgx hat h0 rfl
    rw [gr'] at hgx
    cases hgx
    have := hat 0 [V.s [58, 109, 101, 116, 104, 111, 100], V.s m, V.b false] (by rw [hmap]; rfl)
    rcases r with _ | r
    · cases this
    · cases this
  · rintro x r all ro hx hgx hat h0 rfl
    rw [gr'] at hgx
    cases hgx

end Am
