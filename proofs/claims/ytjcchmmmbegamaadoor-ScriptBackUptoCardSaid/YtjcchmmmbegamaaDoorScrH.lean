/- Steps as arguments. The law ScriptWrite. -/
import Derived.Test.YtjcchmmmbegamaaDoorScrG2
import Derived.Test.YtjcchmmmbegamaaDoorScrD
import Derived.Test.YtjcchmmmbegamaaDoorScrF
namespace Am
set_option linter.unusedVariables false
set_option linter.unusedSimpArgs false
set_option maxRecDepth 20000
set_option maxHeartbeats 8000000
variable {pr : Prog}

abbrev stepTy : Ty := .st [.i .i64, .i .i64, .i .i64, .i .i64, fldTy, .bs, .b, .st [.i .i64, .i .i64, .i .i64, .i .i64, .i .i64]]
theorem lay_kept (x : Dt) (h : H) : Kept h (x.lay h).2 := by
  have := layL_get [x] h
  simp only [Dt.layL] at this
  exact this
theorem arg_lay {x : Dt} (hx : ∀ xs, x ≠ .st xs) (h : H) : x.lay h = ([(x.arg h).1], (x.arg h).2) := by
  cases x with
  | st xs => exact absurd rfl (hx xs)
  | sl k xs => simp only [Dt.lay, Dt.arg]
  | _ => simp only [Dt.lay, Dt.arg]
/-- Whole numbers in their range. -/
structure SpI (s : Sp) : Prop where
  k : i64In s.k
  r : i64In s.r
  i : i64In s.i
  n : i64In s.n
  c : ∀ c, c ∈ s.cs → i64In c
theorem i64_has {x : Dt} (h : Dt.has (.i .i64) x) : ∃ n, x = .i .i64 n ∧ i64In n := by
  obtain ⟨n, h1, h2, h3⟩ := has_i h
  exact ⟨n, h1, h2, h3⟩
theorem bytes_ofT {x : Dt} (hx : Dt.has .bs x) : ∃ l : List UInt8, l.length ≤ Dt.bulk x ∧ ∀ h, ∃ p cap ex, (x.arg h).1 = .sl p l.length cap ex ∧ rdB (x.arg h).2 p l.length = some l := by
  rcases has_bs hx with rfl | ⟨l, rfl, _⟩
  · exact ⟨[], by simp, fun h => ⟨none, 0, true, rfl, rdB_of bseg_zero fun b hb => by cases hb⟩⟩
  · refine ⟨l, by simp [Dt.bulk], fun h => ⟨some (h.nx, 0), l.length, false, rfl, ?_⟩⟩
    obtain ⟨a, n, c, ex, l', e1, _, e2⟩ := arg_bytes (h := h) (x := .bs l) hx
    have e1' : (V.sl (some (h.nx, 0)) l.length l.length false) = .sl a n c ex := e1
    cases e1'
    have : l' = l := by
      have h1 := rdB_bseg e2
      have hg : H.bseg (Dt.lay (.bs l) h).2 (some (h.nx, 0)) l.length = some l := by
        simp only [Dt.lay]
        by_cases he : l.isEmpty = true
        · have : l = [] := by simpa using he
          subst this
          exact bseg_zero
        · rw [if_neg he]
          unfold H.bseg
          have hne : l.length ≠ 0 := by intro h0; exact he (by simp [List.eq_nil_of_length_eq_zero h0])
          rw [if_neg hne]
          have hg : (h.push (.bytes l true)).get h.nx = some (.bytes l true) := by rw [H.get_push, if_pos rfl]
          simp only [hg]
          simp
      have h2 : H.bseg (Dt.lay (.bs l) h).2 (some (h.nx, 0)) l.length = some l' := h1
      rw [hg] at h2; cases h2; rfl
    rw [this] at e2
    exact e2
theorem step_of {d : Dt} (hd : Dt.has stepTy d) : ∃ s : Sp, SpI s ∧ totF s.fs + s.d.length ≤ Dt.bulk d ∧ ∀ h, spRow (d.lay h).2 s (d.lay h).1 := by
  obtain ⟨xs, rfl, ha⟩ := has_st hd
  obtain ⟨x1, _, rfl, h1, ha⟩ := hasL_cons ha
  obtain ⟨x2, _, rfl, h2, ha⟩ := hasL_cons ha
  obtain ⟨x3, _, rfl, h3, ha⟩ := hasL_cons ha
  obtain ⟨x4, _, rfl, h4, ha⟩ := hasL_cons ha
  obtain ⟨x5, _, rfl, h5, ha⟩ := hasL_cons ha
  obtain ⟨x6, _, rfl, h6, ha⟩ := hasL_cons ha
  obtain ⟨x7, _, rfl, h7, ha⟩ := hasL_cons ha
  obtain ⟨x8, _, rfl, h8, ha⟩ := hasL_cons ha
  obtain rfl := hasL_nil ha
  obtain ⟨xc, rfl, hc⟩ := has_st h8
  obtain ⟨y1, _, rfl, g1, hc⟩ := hasL_cons hc
  obtain ⟨y2, _, rfl, g2, hc⟩ := hasL_cons hc
  obtain ⟨y3, _, rfl, g3, hc⟩ := hasL_cons hc
  obtain ⟨y4, _, rfl, g4, hc⟩ := hasL_cons hc
  obtain ⟨y5, _, rfl, g5, hc⟩ := hasL_cons hc
  obtain rfl := hasL_nil hc
  obtain ⟨k, rfl, hk⟩ := i64_has h1
  obtain ⟨r, rfl, hr⟩ := i64_has h2
  obtain ⟨i, rfl, hi⟩ := i64_has h3
  obtain ⟨n, rfl, hn⟩ := i64_has h4
  obtain ⟨fs, q1, q2⟩ := fields_ofT h5
  obtain ⟨l, q3, q4⟩ := bytes_ofT h6
  obtain ⟨e, rfl⟩ := has_b h7
  obtain ⟨c1, rfl, hc1⟩ := i64_has g1
  obtain ⟨c2, rfl, hc2⟩ := i64_has g2
  obtain ⟨c3, rfl, hc3⟩ := i64_has g3
  obtain ⟨c4, rfl, hc4⟩ := i64_has g4
  obtain ⟨c5, rfl, hc5⟩ := i64_has g5
  refine ⟨⟨k, r, i, n, fs, l, e, c1, c2, c3, c4, c5⟩, ⟨hk, hr, hi, hn, ?_⟩, ?_, fun h => ?_⟩
  · intro c hc
    simp only [Sp.cs, List.mem_cons, List.not_mem_nil, or_false] at hc
    rcases hc with rfl | rfl | rfl | rfl | rfl <;> assumption
  · simp only [Dt.bulk, Dt.bulkL]; omega
  · have e5 := arg_lay (x := x5) (by rintro xs rfl; simp [Dt.has] at h5) h
    obtain ⟨p, cap, ex, w1, w2, _⟩ := q2 h
    obtain ⟨p', cap', ex', w3, w4⟩ := q4 (x5.arg h).2
    have e6 := arg_lay (x := x6) (by rintro xs rfl; simp [Dt.has] at h6) (x5.arg h).2
    rw [w1] at e5
    rw [w3] at e6
    have hk6 : Kept (x5.arg h).2 (x6.arg (x5.arg h).2).2 := by
      have := lay_kept x6 (x5.arg h).2
      rw [e6] at this; exact this
    simp only [Dt.lay, Dt.layL, e5, e6]
    exact ⟨p, fs.length, cap, ex, p', l.length, cap', ex', rfl, rowsIn_kept w2 hk6, w4⟩
theorem steps_of : ∀ {xs : List Dt}, Dt.hasA stepTy xs → ∃ ss : List Sp, ss.length = xs.length ∧ (∀ s ∈ ss, SpI s) ∧ sumW ss ≤ 2 * Dt.bulkL xs ∧ ∀ h, (Dt.layR xs h).1.length = ss.length ∧ ∀ (i : Nat) s, ss[i]? = some s → ∃ row, (Dt.layR xs h).1[i]? = some row ∧ spRow (Dt.layR xs h).2 s row
  | [], _ => ⟨[], rfl, fun s hs => by (cases hs), by simp [sumW], fun h => ⟨by simp [Dt.layR], fun i s hi => by simp at hi⟩⟩
  | x :: xs, h => by
    simp only [Dt.hasA] at h
    obtain ⟨s, hs1, hs2, hs3⟩ := step_of h.1
    obtain ⟨ss, q1, q2, q3, q4⟩ := steps_of h.2
    refine ⟨s :: ss, by simp [q1], fun s' hs' => ?_, ?_, fun g => ⟨?_, fun i s' hi => ?_⟩⟩
    · rcases List.mem_cons.1 hs' with rfl | hs'
      · exact hs1
      · exact q2 _ hs'
    · have hb : 1 ≤ Dt.bulk x := by cases x <;> simp [Dt.bulk]
      simp only [sumW, List.map_cons, List.sum_cons, Dt.bulkL, wtS] at q3 ⊢; omega
    · simp only [Dt.layR, List.length_cons]; rw [(q4 _).1]
    · cases i with
      | zero =>
        simp at hi; subst hi
        refine ⟨(x.lay g).1, by simp [Dt.layR], ?_⟩
        simp only [Dt.layR]
        exact spRow_kept (hs3 g) (layR_get xs (x.lay g).2)
      | succ i =>
        simp at hi
        obtain ⟨row, w1, w2⟩ := (q4 (x.lay g).2).2 i s' hi
        exact ⟨row, by simpa [Dt.layR] using w1, by simpa [Dt.layR] using w2⟩
theorem stepSl_of {x : Dt} (hx : Dt.has (.sl 12 stepTy) x) : ∃ ss : List Sp, (∀ s ∈ ss, SpI s) ∧ sumW ss ≤ 2 * Dt.bulk x ∧ ∀ h, ∃ p cap ex, (x.arg h).1 = .sl p ss.length cap ex ∧ ss.length ≤ cap ∧ stepsIn (x.arg h).2 p ss.length ss ∧ Kept h (x.arg h).2 := by
  rcases has_sl hx with rfl | ⟨xs, rfl, hl, ha⟩
  · exact ⟨[], fun s hs => by (cases hs), by simp [sumW], fun h => ⟨none, 0, true, rfl, Nat.le_refl _, ⟨rfl, .inl rfl⟩, Kept.refl⟩⟩
  · obtain ⟨ss, q1, q2, q3, q4⟩ := steps_of ha
    refine ⟨ss, q2, by simp only [Dt.bulk]; omega, fun h => ⟨some ((Dt.layR xs h).2.nx, 0), xs.length, false, ?_, by omega, ⟨rfl, ?_⟩, ?_⟩⟩
    · simp only [Dt.arg, q1]
    · cases xs with
      | nil => exact .inl (by simpa using q1)
      | cons y ys =>
        refine .inr ⟨(Dt.layR (y :: ys) h).2.nx, 0, (Dt.layR (y :: ys) h).1, true, rfl, ?_, ?_, fun i s hi => ?_⟩
        · simp [Dt.arg, Dt.lay, H.push]
        · simp [Dt.arg, Dt.lay, H.get_push]
        · obtain ⟨row, w1, w2⟩ := (q4 h).2 i s hi
          refine ⟨row, by rw [Nat.zero_add]; exact w1, ?_⟩
          simp only [Dt.arg, Dt.lay, List.isEmpty_cons, Bool.false_eq_true, if_false]
          exact spRow_kept w2 (Kept.push Kept.refl)
    · have := lay_kept (.sl 12 xs) h
      simpa [Dt.arg] using this

theorem spOk_of {Z : H → Int → Bool} {h : H} (hz : ∀ n, Z h n = true) {s : Sp} (o : SpI s) (hw : wtS s ≤ 50000) : SpOk Z h s := by
  have h1 := totF_len s.fs
  unfold wtS at hw
  exact ⟨o.k, o.r, o.i, o.n, fun c hc => ⟨o.c c hc, hz c⟩, hz _, hz _, by omega, by omega⟩
theorem wtS_le : ∀ {ss : List Sp} {s : Sp}, s ∈ ss → wtS s ≤ sumW ss
  | t :: ss, s, h => by
    simp only [sumW, List.map_cons, List.sum_cons]
    rcases List.mem_cons.1 h with rfl | h
    · omega
    · have := wtS_le h
      unfold sumW at this
      omega
theorem gWr_eq {Z : H → Int → Bool} {h : H} {p : Option (Nat × Nat)} {n c : Nat} {ex : Bool} {ss : List Sp} (hst : stepsIn h p n ss) (ok : ∀ s ∈ ss, SpOk Z h s) : gWr Z [.sl p n c ex] h = some (writeV ss, h) := by
  have hl := hst.1
  unfold gWr
  simp only
  by_cases hn : 4096 < n
  · rw [if_pos hn]
    unfold writeV
    rw [if_pos (by omega)]
  · rw [if_neg hn]
    simp only [rdSps_of hst]
    rw [if_pos (List.all_eq_true.2 fun s hs => okB_of (ok s hs))]
theorem stepsIn_take {h : H} {p : Option (Nat × Nat)} {n k : Nat} {ss : List Sp} (hst : stepsIn h p n ss) (hk : k ≤ n) : stepsIn h p k (ss.take k) := by
  obtain ⟨h1, h2⟩ := hst
  refine ⟨by rw [List.length_take]; omega, ?_⟩
  rcases h2 with h2 | ⟨b, r, all, ro, e, hb, hg, hat⟩
  · exact .inl (by omega)
  · refine .inr ⟨b, r, all, ro, e, hb, hg, fun i s hi => ?_⟩
    have hik : i < k := by
      have := (List.getElem?_eq_some_iff.1 hi).1
      rw [List.length_take] at this; omega
    rw [List.getElem?_take_of_lt hik] at hi
    exact hat i s hi
theorem writeV_two (ss : List Sp) : ∃ x y, writeV ss = .tup [.s x, .i .i64 y] := by
  unfold writeV
  split
  · exact ⟨_, _, rfl⟩
  · split
    · exact ⟨_, _, rfl⟩
    · split <;> exact ⟨_, _, rfl⟩
theorem writeR_ok {Z : H → Int → Bool} (hZ : Zok Z) {kl : Nat} (hl : pr.ext kl = some (gLineS Z)) : OkF pr (c_isthmusref23_Write kl) (gWr Z) := by
  intro ys h v h' hg
  unfold gWr at hg
  split at hg
  case h_2 => cases hg
  rename_i p n c ex
  split at hg
  · rename_i hn
    cases hg
    have hbig : (4096 : Int) < (n : Int) := by omega
    unfold wpF c_isthmusref23_Write
    refine ⟨by simp, ?_⟩
    simp only [↓STEP, SB, looked, behind, lookOk, AAct.kind, AOp.kind, wpRes, evRes, resV, AOp.ev, bin, binI, binS, shiftI, eqV, un, bound, boundO, fill, fillRows, aggOf, keyEq, findKey, putKey, V.cells, V.flat, byteOf, bytesOf, rdOf, H.wr, H.kOf, splice, isYl, ↓reduceIte, Nat.reduceEqDiff, Nat.reduceLeDiff, Nat.reduceLT, Nat.reduceAdd, Nat.reduceSub, Nat.reduceMul, Int.reduceLT, Int.reduceLE, Int.reduceEq, Int.reduceAdd, Int.reduceSub, Int.reduceMul, Int.reduceNeg, Int.reduceToNat, reduceCtorEq, hbig]
    exact Abs.out rfl rfl Kept.refl
  · split at hg
    · rename_i ss hs
      split at hg
      · rename_i hok
        cases hg
        refine wpF_mono (writeR_wp hZ hl (rdSps_in hs) (fun s hs => okB_ok (List.all_eq_true.1 hok s hs)) (by omega)) fun v g hv => Abs.out hv.1 ?_ hv.2
        obtain ⟨x, y, e⟩ := writeV_two ss
        rw [e]; rfl
      · cases hg
    · cases hg
theorem lineR_ok {Z : H → Int → Bool} {kf ke kr kd kt : Nat} (hf : pr.ext kf = some gFld) (he : pr.ext ke = some gEnd) (hr : pr.ext kr = some gRole) (hd : pr.ext kd = some gDigR) (ht : pr.ext kt = some gTx2) : OkF pr (c_isthmusref23_Line kf ke kr kd kt) (gLineS Z) := by
  intro ys h v h' hg
  unfold gLineS at hg
  split at hg
  case h_2 => cases hg
  rename_i row
  split at hg
  · rename_i s hs
    split at hg
    · rename_i hok
      cases hg
      exact wpF_mono (lineR_wp hf he hr hd ht (spOf_row hs) (okB_ok hok)) fun v g hv => Abs.out hv.1 (lineV_plain s) hv.2
    · cases hg
  · cases hg
end Am
