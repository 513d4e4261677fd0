/- A SETTINGS frame's payload: what the program puts together. -/
import Derived.Test.YtibmhhdgcbaofaaDoorAskA2
namespace Am
set_option linter.unusedVariables false
set_option linter.unusedSimpArgs false
set_option maxRecDepth 20000
set_option maxHeartbeats 8000000
variable {pr : Prog}

structure St where
  id : Int
  v : Int
def St.row (s : St) : List V := [.i .i64 s.id, .i .i64 s.v]
theorem St.row_inj (x y : St) (h : x.row = y.row) : x = y := by
  cases x; cases y
  simp only [St.row, List.cons.injEq, V.i.injEq, true_and, and_true] at h
  obtain ⟨rfl, rfl⟩ := h; rfl
def okSt (s : St) : Bool := decide (0 ≤ s.id) && decide (s.id ≤ 65535) && (decide (0 ≤ s.v) && decide (s.v < 4294967296))
def setB (ss : List St) : List UInt8 := (ss.map fun s => beL 2 s.id.toNat ++ beL 4 s.v.toNat).flatten
theorem setB_len (ss : List St) : (setB ss).length = 6 * ss.length := by
  induction ss with
  | nil => rfl
  | cons s ss ih =>
    have : setB (s :: ss) = (beL 2 s.id.toNat ++ beL 4 s.v.toNat) ++ setB ss := rfl
    rw [this, List.length_append, List.length_append, beL_len, beL_len, ih, List.length_cons]; omega
theorem setB_succ {ss : List St} {i : Nat} (hi : i < ss.length) : setB (ss.take (i + 1)) = setB (ss.take i) ++ beL 2 ss[i].id.toNat ++ beL 4 ss[i].v.toNat := by
  unfold setB
  rw [List.take_add_one, List.getElem?_eq_getElem hi, List.map_append, List.flatten_append]
  simp
def bodyS (p : Option (Nat × Nat)) (n c : Nat) (ex : Bool) : List V := [.sl none 0 0 true, .i .i64 0, .b false, .b false, .i .i64 0, .i .i64 0, .i .i64 0, .i .i64 0, .i .i64 0, .sl p n c ex, .i .i64 0]

def gWord (ys : List V) (h : H) : Option (V × H) :=
  match ys with
  | [.i .i64 n] => some (.b (decide (0 ≤ n) && decide (n < 4294967296)), h)
  | _ => none
theorem word_ok : OkF pr c_frame_word gWord := by
  intro ys h v h' hg
  unfold gWord at hg
  split at hg
  · rename_i n
    cases hg
    unfold wpF c_frame_word
    refine ⟨by simp, ?_⟩
    by_cases h1 : 0 ≤ n
    · by_cases h2 : n < 4294967296
      · simp only [↓STEP, SB, looked, behind, lookOk, AAct.kind, AOp.kind, wpRes, evRes, resV, AOp.ev, bin, binI, binS, shiftI, eqV, un, bound, boundO, fill, fillRows, aggOf, keyEq, findKey, putKey, V.cells, V.flat, byteOf, bytesOf, rdOf, H.wr, H.kOf, splice, isYl, ↓reduceIte, Nat.reduceEqDiff, Nat.reduceLeDiff, Nat.reduceLT, Nat.reduceAdd, Nat.reduceSub, Nat.reduceMul, Int.reduceLT, Int.reduceLE, Int.reduceEq, Int.reduceAdd, Int.reduceSub, Int.reduceMul, Int.reduceNeg, Int.reduceToNat, reduceCtorEq, h1, h2]; exact Abs.eq (by simp [h1, h2]) rfl
      · simp only [↓STEP, SB, looked, behind, lookOk, AAct.kind, AOp.kind, wpRes, evRes, resV, AOp.ev, bin, binI, binS, shiftI, eqV, un, bound, boundO, fill, fillRows, aggOf, keyEq, findKey, putKey, V.cells, V.flat, byteOf, bytesOf, rdOf, H.wr, H.kOf, splice, isYl, ↓reduceIte, Nat.reduceEqDiff, Nat.reduceLeDiff, Nat.reduceLT, Nat.reduceAdd, Nat.reduceSub, Nat.reduceMul, Int.reduceLT, Int.reduceLE, Int.reduceEq, Int.reduceAdd, Int.reduceSub, Int.reduceMul, Int.reduceNeg, Int.reduceToNat, reduceCtorEq, h1, h2]; exact Abs.eq (by simp [h1, h2]) rfl
    · simp only [↓STEP, SB, looked, behind, lookOk, AAct.kind, AOp.kind, wpRes, evRes, resV, AOp.ev, bin, binI, binS, shiftI, eqV, un, bound, boundO, fill, fillRows, aggOf, keyEq, findKey, putKey, V.cells, V.flat, byteOf, bytesOf, rdOf, H.wr, H.kOf, splice, isYl, ↓reduceIte, Nat.reduceEqDiff, Nat.reduceLeDiff, Nat.reduceLT, Nat.reduceAdd, Nat.reduceSub, Nat.reduceMul, Int.reduceLT, Int.reduceLE, Int.reduceEq, Int.reduceAdd, Int.reduceSub, Int.reduceMul, Int.reduceNeg, Int.reduceToNat, reduceCtorEq, h1]; exact Abs.eq (by simp [h1]) rfl
  · cases hg

def PayLoop (h : H) (ss : List St) (p : Option (Nat × Nat)) (c : Nat) (ex0 : Bool) (m : Nat) (t : Tm) (g : H) : Prop :=
  ∃ (i : Nat) (a : Option (Nat × Nat)) (n : Nat) (ex : Bool), m = ss.length - i ∧ i ≤ ss.length ∧ t.v 58 = .i .i64 (i : Nat) ∧ t.v 57 = .i .i64 ss.length ∧ t.v 56 = .sl p ss.length c ex0 ∧ t.v 0 = .sl a n n ex ∧ OutX h g a n ex (setB (ss.take i)) ∧ (ss.take i).all okSt = true

theorem payload_runs {kp kl kw klow kpay : Nat} (hA : pr.ext kpay = none) (hfn : pr.fn kpay = some (c_frame_payload kp kl kw klow)) (hl : pr.ext kl = none) (hlf : pr.fn kl = some c_frame_lay) (hw : pr.ext kw = some gWord)
    {h : H} {p : Option (Nat × Nat)} {n c : Nat} {ex0 : Bool} {ss : List St} (hr : rowsIn h 2 p n (ss.map St.row)) (hn : n ≤ 10000000) :
    Runs pr (.fn kpay) [.sl none 0 0 true, .i .i64 4, .i .i64 0, .agg (bodyS p n c ex0)] h (fun v g => (ss.all okSt = true ∧ ∃ a n' ex, v = .tup [.sl a n' n' ex, .b true] ∧ OutX h g a n' ex (setB ss)) ∨ (ss.all okSt = false ∧ v = .tup [.sl none 0 0 true, .b false] ∧ Kept h g)) := by
  have xw := @wpCall_ext pr kw _ hw
  have hx : ∀ x g, gWord [.i .i64 x] g = some (.b (decide (0 ≤ x) && decide (x < 4294967296)), g) := fun x g => rfl
  obtain ⟨hlen, hrows⟩ := hr
  rw [List.length_map] at hlen
  subst hlen
  refine runs_of_wpF hA hfn ?_
  unfold wpF c_frame_payload
  refine ⟨by simp, ?_⟩
  have hb : (bodyS p ss.length c ex0).length = 11 := rfl
  simp only [↓STEP, SB, looked, behind, lookOk, AAct.kind, AOp.kind, wpRes, evRes, resV, AOp.ev, bin, binI, binS, shiftI, eqV, un, bound, boundO, fill, fillRows, aggOf, keyEq, findKey, putKey, V.cells, V.flat, byteOf, bytesOf, rdOf, H.wr, H.kOf, splice, isYl, ↓reduceIte, Nat.reduceEqDiff, Nat.reduceLeDiff, Nat.reduceLT, Nat.reduceAdd, Nat.reduceSub, Nat.reduceMul, Int.reduceLT, Int.reduceLE, Int.reduceEq, Int.reduceAdd, Int.reduceSub, Int.reduceMul, Int.reduceNeg, Int.reduceToNat, reduceCtorEq, bodyS]
  refine wpA_loop_inv (PayLoop h ss p c ex0) ?_ (m := ss.length) ?_
  · rintro m t g ⟨i, a, n, ex, rfl, hi, e58, e57, e56, e0, o, hall⟩
    have hsl := setB_len (ss.take i)
    rw [List.length_take, Nat.min_eq_left hi] at hsl
    by_cases hlt : i < ss.length
    · have hlt' : (i : Int) < (ss.length : Int) := by omega
      obtain ⟨bb, r, all, ro, rfl, hbb, hgb, hat⟩ := hrows.resolve_left (by omega)
      have hgb' : g.get bb = some (.rows 2 all ro) := by rw [o.kept.2 bb hbb]; exact hgb
      have hrw : all[r + i]? = some [.i .i64 ss[i].id, .i .i64 ss[i].v] := hat i _ (by rw [List.getElem?_map, List.getElem?_eq_getElem hlt]; rfl)
      have hwr : Go.IntKind.wrap .i64 ((i : Int) + 1) = (i : Int) + 1 := wrap_i64 (by omega) (by omega)
      have hsucc := setB_succ hlt
      have hall1 : (ss.take (i + 1)).all okSt = okSt ss[i] := by rw [List.take_add_one, List.getElem?_eq_getElem hlt, List.all_append, hall]; simp
      have bad : okSt ss[i] = false → ss.all okSt = false := fun hx => by rw [List.all_eq_false]; exact ⟨ss[i], List.getElem_mem hlt, by simpa using hx⟩
      generalize ss[i] = s at *
      have nn : bb ≠ g.nx := by have := o.kept.1; omega
      by_cases a1 : s.id < 0
      · simp only [↓STEP, SB, looked, behind, lookOk, AAct.kind, AOp.kind, wpRes, evRes, resV, AOp.ev, bin, binI, binS, shiftI, eqV, un, bound, boundO, fill, fillRows, aggOf, keyEq, findKey, putKey, V.cells, V.flat, byteOf, bytesOf, rdOf, H.wr, H.kOf, splice, isYl, ↓reduceIte, Nat.reduceEqDiff, Nat.reduceLeDiff, Nat.reduceLT, Nat.reduceAdd, Nat.reduceSub, Nat.reduceMul, Int.reduceLT, Int.reduceLE, Int.reduceEq, Int.reduceAdd, Int.reduceSub, Int.reduceMul, Int.reduceNeg, Int.reduceToNat, reduceCtorEq, e58, e57, e56, e0, hlt', hgb', hrw, a1]
        exact .inr ⟨bad (by unfold okSt; rw [decide_eq_false (by omega)]; rfl), o.kept.trans (by (repeat (first | exact Kept.refl | apply Kept.push | refine Kept.kill ?_ (by omega) | refine Kept.set ?_ (by omega))))⟩
      · by_cases a2 : 65535 < s.id
        · simp only [↓STEP, SB, looked, behind, lookOk, AAct.kind, AOp.kind, wpRes, evRes, resV, AOp.ev, bin, binI, binS, shiftI, eqV, un, bound, boundO, fill, fillRows, aggOf, keyEq, findKey, putKey, V.cells, V.flat, byteOf, bytesOf, rdOf, H.wr, H.kOf, splice, isYl, ↓reduceIte, Nat.reduceEqDiff, Nat.reduceLeDiff, Nat.reduceLT, Nat.reduceAdd, Nat.reduceSub, Nat.reduceMul, Int.reduceLT, Int.reduceLE, Int.reduceEq, Int.reduceAdd, Int.reduceSub, Int.reduceMul, Int.reduceNeg, Int.reduceToNat, reduceCtorEq, e58, e57, e56, e0, hlt', hgb', hrw, a1, a2]
          exact .inr ⟨bad (by unfold okSt; rw [decide_eq_false (p := s.id ≤ 65535) (by omega)]; simp), o.kept.trans (by (repeat (first | exact Kept.refl | apply Kept.push | refine Kept.kill ?_ (by omega) | refine Kept.set ?_ (by omega))))⟩
        · cases hv : (decide (0 ≤ s.v) && decide (s.v < 4294967296)) with
          | false =>
            have hx := hx s.v
            rw [hv] at hx
            simp only [↓STEP, SB, looked, behind, lookOk, AAct.kind, AOp.kind, wpRes, evRes, resV, AOp.ev, bin, binI, binS, shiftI, eqV, un, bound, boundO, fill, fillRows, aggOf, keyEq, findKey, putKey, V.cells, V.flat, byteOf, bytesOf, rdOf, H.wr, H.kOf, splice, isYl, ↓reduceIte, Nat.reduceEqDiff, Nat.reduceLeDiff, Nat.reduceLT, Nat.reduceAdd, Nat.reduceSub, Nat.reduceMul, Int.reduceLT, Int.reduceLE, Int.reduceEq, Int.reduceAdd, Int.reduceSub, Int.reduceMul, Int.reduceNeg, Int.reduceToNat, reduceCtorEq, e58, e57, e56, e0, hlt', hgb', hrw, a1, a2, xw, hx]
            exact .inr ⟨bad (by unfold okSt; rw [hv]; simp), o.kept.trans (by (repeat (first | exact Kept.refl | apply Kept.push | refine Kept.kill ?_ (by omega) | refine Kept.set ?_ (by omega))))⟩
          | true =>
            have hx := hx s.v
            rw [hv] at hx
            simp only [Bool.and_eq_true, decide_eq_true_eq] at hv
            obtain ⟨N1, hN1⟩ : ∃ N : Nat, s.id = N := ⟨s.id.toNat, by omega⟩
            obtain ⟨N2, hN2⟩ : ∃ N : Nat, s.v = N := ⟨s.v.toNat, by omega⟩
            obtain ⟨sid, sv⟩ := s
            simp only at hN1 hN2 a1 a2 hx hrw hsucc hall1 hv
            subst hN1 hN2
            simp only [Int.toNat_natCast] at hsucc
            have hb1 : N1 < 9223372036854775808 := by omega
            have hb2 : N2 < 9223372036854775808 := by omega
            have hok : okSt ⟨(N1 : Int), (N2 : Int)⟩ = true := by
              unfold okSt
              simp only [Bool.and_eq_true, decide_eq_true_eq]
              omega
            have na1 := a1
            have na2 := a2
            clear hv a1 a2
            have hnl := o.len
            rw [hsl] at hnl
            simp only [↓STEP, SB, looked, behind, lookOk, AAct.kind, AOp.kind, wpRes, evRes, resV, AOp.ev, bin, binI, binS, shiftI, eqV, un, bound, boundO, fill, fillRows, aggOf, keyEq, findKey, putKey, V.cells, V.flat, byteOf, bytesOf, rdOf, H.wr, H.kOf, splice, isYl, ↓reduceIte, Nat.reduceEqDiff, Nat.reduceLeDiff, Nat.reduceLT, Nat.reduceAdd, Nat.reduceSub, Nat.reduceMul, Int.reduceLT, Int.reduceLE, Int.reduceEq, Int.reduceAdd, Int.reduceSub, Int.reduceMul, Int.reduceNeg, Int.reduceToNat, reduceCtorEq, e58, e57, e56, e0, hlt', hgb', hrw, na1, na2, xw, hx]
            have o2 := o.keep (g' := ((g.push (Blk.rows 2 [[V.i Go.IntKind.i64 0, V.i Go.IntKind.i64 0]] false)).set g.nx (Blk.rows 2 [[V.i Go.IntKind.i64 (N1 : Int), V.i Go.IntKind.i64 (N2 : Int)]] false))) (by (repeat (first | exact Kept.refl | apply Kept.push | refine Kept.kill ?_ (by omega) | refine Kept.set ?_ (by omega))))
            have hcell : ((g.push (Blk.rows 2 [[V.i Go.IntKind.i64 0, V.i Go.IntKind.i64 0]] false)).set g.nx (Blk.rows 2 [[V.i Go.IntKind.i64 (N1 : Int), V.i Go.IntKind.i64 (N2 : Int)]] false)).get g.nx = some (Blk.rows 2 [[V.i Go.IntKind.i64 (N1 : Int), V.i Go.IntKind.i64 (N2 : Int)]] false) := by rw [H.get_set, if_pos rfl]
            have hnx2 : ((g.push (Blk.rows 2 [[V.i Go.IntKind.i64 0, V.i Go.IntKind.i64 0]] false)).set g.nx (Blk.rows 2 [[V.i Go.IntKind.i64 (N1 : Int), V.i Go.IntKind.i64 (N2 : Int)]] false)).nx = g.nx + 1 := rfl
            have ha_ne : blkOf a ≠ some g.nx := by
              intro hb
              rcases o.is with ⟨rfl, _⟩ | ⟨b, rfl, _, _, h4, _⟩
              · cases hb
              · cases hb; exact absurd h4 (Nat.lt_irrefl _)
            generalize ((g.push (Blk.rows 2 [[V.i Go.IntKind.i64 0, V.i Go.IntKind.i64 0]] false)).set g.nx (Blk.rows 2 [[V.i Go.IntKind.i64 (N1 : Int), V.i Go.IntKind.i64 (N2 : Int)]] false)) = G at *
            refine Runs.mono (c := .fn kl) (as := [V.sl a n n ex, V.i Go.IntKind.i64 ((2 : Nat) : Int), V.i Go.IntKind.i64 (N1 : Int)] ++ []) (lay_runs hl hlf o2 (by decide) hb1 (by rw [hsl]; omega)) ?_
            rintro v1 g1 ⟨a1', n1', ex1', rfl, o3, k3, f3⟩
            have hcell1 : g1.get g.nx = some (Blk.rows 2 [[V.i Go.IntKind.i64 (N1 : Int), V.i Go.IntKind.i64 (N2 : Int)]] false) := by rw [k3.2 _ (by omega) ha_ne]; exact hcell
            have ble1 : Nat.ble (g.nx + 1) g1.nx = true := by have := k3.1; rw [hnx2] at this; simpa using this
            simp only [↓STEP, SB, looked, behind, lookOk, AAct.kind, AOp.kind, wpRes, evRes, resV, AOp.ev, bin, binI, binS, shiftI, eqV, un, bound, boundO, fill, fillRows, aggOf, keyEq, findKey, putKey, V.cells, V.flat, byteOf, bytesOf, rdOf, H.wr, H.kOf, splice, isYl, ↓reduceIte, Nat.reduceEqDiff, Nat.reduceLeDiff, Nat.reduceLT, Nat.reduceAdd, Nat.reduceSub, Nat.reduceMul, Int.reduceLT, Int.reduceLE, Int.reduceEq, Int.reduceAdd, Int.reduceSub, Int.reduceMul, Int.reduceNeg, Int.reduceToNat, reduceCtorEq, hcell1, ble1]
            refine Runs.mono (c := .fn kl) (as := [V.sl a1' n1' n1' ex1', V.i Go.IntKind.i64 ((4 : Nat) : Int), V.i Go.IntKind.i64 (N2 : Int)] ++ []) (lay_runs hl hlf o3 (by decide) hb2 (by rw [List.length_append, hsl, beL_len]; omega)) ?_
            rintro v2 g2 ⟨a2', n2', ex2', rfl, o4, k4, f4⟩
            have ble2 : Nat.ble g1.nx g2.nx = true := by simpa using k4.1
            simp only [↓STEP, SB, looked, behind, lookOk, AAct.kind, AOp.kind, wpRes, evRes, resV, AOp.ev, bin, binI, binS, shiftI, eqV, un, bound, boundO, fill, fillRows, aggOf, keyEq, findKey, putKey, V.cells, V.flat, byteOf, bytesOf, rdOf, H.wr, H.kOf, splice, isYl, ↓reduceIte, Nat.reduceEqDiff, Nat.reduceLeDiff, Nat.reduceLT, Nat.reduceAdd, Nat.reduceSub, Nat.reduceMul, Int.reduceLT, Int.reduceLE, Int.reduceEq, Int.reduceAdd, Int.reduceSub, Int.reduceMul, Int.reduceNeg, Int.reduceToNat, reduceCtorEq, ble2, e58, hwr]
            rw [← hsucc] at o4
            refine ⟨_, by omega, i + 1, a2', n2', ex2', rfl, by omega, by simp [v_pd, v_pd0], by simp [v_pd, v_pd0, e57], by simp [v_pd, v_pd0, e56], by simp [v_pd, v_pd0], o4, ?_⟩
            rw [hall1]
            exact hok
    · have hil : i = ss.length := by omega
      subst hil
      have hlt' : ¬ (ss.length : Int) < (ss.length : Int) := by omega
      rw [List.take_length] at o hall
      simp only [↓STEP, SB, looked, behind, lookOk, AAct.kind, AOp.kind, wpRes, evRes, resV, AOp.ev, bin, binI, binS, shiftI, eqV, un, bound, boundO, fill, fillRows, aggOf, keyEq, findKey, putKey, V.cells, V.flat, byteOf, bytesOf, rdOf, H.wr, H.kOf, splice, isYl, ↓reduceIte, Nat.reduceEqDiff, Nat.reduceLeDiff, Nat.reduceLT, Nat.reduceAdd, Nat.reduceSub, Nat.reduceMul, Int.reduceLT, Int.reduceLE, Int.reduceEq, Int.reduceAdd, Int.reduceSub, Int.reduceMul, Int.reduceNeg, Int.reduceToNat, reduceCtorEq, e58, e57, e56, e0, hlt']
      exact .inl ⟨hall, _, _, _, rfl, o⟩
  · exact ⟨0, none, 0, true, rfl, Nat.zero_le _, by simp [v_pd], by simp [v_pd], by simp [v_pd], by simp [v_pd, v_args_cons], (OutX.nil h).push _, rfl⟩

end Am
