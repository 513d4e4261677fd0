/- Script texts: what the law ScriptBack wants of lines. No program in sight. -/
import Derived.Test.YtjcchmmmbegamaaDoorScrR
import Derived.Test.YtjcchmmmbegamaaDoorScrE
namespace Am
set_option linter.unusedVariables false
set_option linter.unusedSimpArgs false
set_option maxRecDepth 20000
set_option maxHeartbeats 8000000

theorem no10_hex : ∀ n, n < 16 → hexB n ≠ 10 := by decide
theorem no10_enc (c : UInt8) : 10 ∉ encB c := by
  unfold encB
  split
  · rename_i h
    intro hm
    have : c = 10 := by simpa using Eq.symm (List.mem_singleton.1 hm)
    subst this
    exact absurd h (by decide)
  · have hc := c.toNat_lt
    intro hm
    simp only [List.mem_cons, List.not_mem_nil, or_false] at hm
    rcases hm with h | h | h
    · exact absurd h (by decide)
    · exact no10_hex _ (by omega) h.symm
    · exact no10_hex _ (by omega) h.symm
theorem no10_tx (l : List UInt8) : 10 ∉ txF l := by
  unfold txF
  intro hm
  simp only [List.mem_cons, List.mem_append, List.mem_flatMap, List.not_mem_nil, or_false] at hm
  rcases hm with h | ⟨c, _, h⟩ | h
  · exact absurd h (by decide)
  · exact no10_enc c h
  · exact absurd h (by decide)
theorem no10_field (f : Fd) : 10 ∉ fieldT f := by
  unfold fieldT
  intro hm
  simp only [List.mem_cons, List.mem_append] at hm
  rcases hm with h | h | h | h
  · exact no10_tx _ h
  · exact absurd h (by decide)
  · exact no10_tx _ h
  · split at h
    · simp at h
    · simp at h
theorem no10_fields (fs : List Fd) : 10 ∉ fF fs := by
  cases fs with
  | nil => simp [fF]
  | cons f r =>
    intro hm
    simp only [fF, List.mem_append, List.mem_flatten, List.mem_map] at hm
    rcases hm with h | ⟨x, ⟨g, _, rfl⟩, h⟩
    · exact no10_field f h
    · rcases List.mem_cons.1 h with h | h
      · exact absurd h (by decide)
      · exact no10_field g h
theorem no10_dec : ∀ (k u : Nat), 10 ∉ decF k u
  | 0, u => by simp [decF]
  | k + 1, u => by
    rw [decF]
    have h10 : ∀ d, d < 10 → UInt8.ofNat (48 + d) ≠ 10 := by decide
    split
    · rename_i h
      intro hm; exact h10 u h (List.mem_singleton.1 hm).symm
    · intro hm
      rcases List.mem_append.1 hm with h | h
      · exact no10_dec k _ h
      · exact h10 _ (Nat.mod_lt _ (by decide)) (List.mem_singleton.1 h).symm
theorem no10_ito (n : Int) : 10 ∉ itoF n := by
  unfold itoF
  split
  · intro hm
    rcases List.mem_cons.1 hm with h | h
    · exact absurd h (by decide)
    · exact no10_dec _ _ h
  · exact no10_dec _ _
theorem no10_role (r : Int) : 10 ∉ roleT r := by unfold roleT; split <;> decide
theorem no10_end (b : Bool) : 10 ∉ endT b := by unfold endT; split <;> decide
/-- A line has one end, and is not too long. -/
theorem line_is {s : Sp} {x : List UInt8} (h : lineF s = some x) : (∃ y, x = y ++ [10] ∧ 10 ∉ y) ∧ x.length ≤ 7 * totF s.fs + 3 * s.d.length + 130 := by
  unfold lineF at h
  split at h
  · cases h
  · rename_i hk
    split at h
    · cases h
      have h1 := no10_fields s.fs
      have h2 := no10_tx s.d
      have h3 := no10_ito s.i
      have h4 := no10_ito s.n
      have h5 := no10_role s.r
      have h6 := no10_end s.e
      have c1 := no10_ito s.c1
      have c2 := no10_ito s.c2
      have c3 := no10_ito s.c3
      have c4 := no10_ito s.c4
      have c5 := no10_ito s.c5
      have l1 := fF_len s.fs
      have l2 := tx_len s.d
      have l3 := itoF_len s.i
      have l4 := itoF_len s.n
      have l5 : (roleT s.r).length ≤ 1 := by unfold roleT; split <;> simp
      have l6 : (endT s.e).length ≤ 4 := by unfold endT; split <;> simp
      have m1 := itoF_len s.c1
      have m2 := itoF_len s.c2
      have m3 := itoF_len s.c3
      have m4 := itoF_len s.c4
      have m5 := itoF_len s.c5
      have hkk : s.k.toNat = 1 ∨ s.k.toNat = 2 ∨ s.k.toNat = 3 ∨ s.k.toNat = 4 ∨ s.k.toNat = 5 ∨ s.k.toNat = 6 ∨ s.k.toNat = 7 ∨ s.k.toNat = 8 ∨ s.k.toNat = 9 := by omega
      refine ⟨⟨_, rfl, ?_⟩, ?_⟩
      · rcases hkk with h | h | h | h | h | h | h | h | h <;> rw [h] <;> simp [formsL, partF, joinS, Sp.cs, h1, h2, h3, h4, h5, h6, c1, c2, c3, c4, c5]
      · rcases hkk with h | h | h | h | h | h | h | h | h <;> rw [h] <;> simp [formsL, partF, joinS, Sp.cs] <;> omega
    · cases h
theorem wrF_app : ∀ (ss ss2 : List Sp) (acc : List UInt8) (er : Int), wrF (ss ++ ss2) acc er = (wrF ss acc er).bind fun p => wrF ss2 p.1 p.2
  | [], ss2, acc, er => rfl
  | s :: r, ss2, acc, er => by
    rw [List.cons_append, wrF, wrF]
    split
    · rfl
    · exact wrF_app r ss2 _ _
theorem told_write {ss : List Sp} {t : List UInt8} (h : Told ss t) : t.length ≤ 1048576 → wrF ss [] 0 = some (t, 0) := by
  induction h with
  | nil => intro _; rfl
  | snoc ss t s l h ok hl hn ih =>
    intro hlen
    rw [List.length_append] at hlen
    rw [wrF_app, ih (by omega), Option.bind_some, wrF, wrF]
    have e : lineE s = (l ++ [10], 0) := by unfold lineE; rw [hl]
    rw [e]
    simp only
    rw [if_neg (by omega)]
    simp [errF]
theorem told_count {ss : List Sp} {t : List UInt8} (h : Told ss t) : t.count 10 = ss.length := by
  induction h with
  | nil => rfl
  | snoc ss t s l h ok hl hn ih =>
    rw [List.count_append, List.count_append, ih, List.count_eq_zero_of_not_mem hn, List.length_append]
    rfl
theorem told_all {ss : List Sp} {t : List UInt8} (h : Told ss t) : ∀ s ∈ ss, SpR s := by
  induction h with
  | nil => intro s hs; cases hs
  | snoc ss t s l h ok hl hn ih =>
    intro x hx
    rcases List.mem_append.1 hx with hx | hx
    · exact ih x hx
    · rw [List.mem_singleton.1 hx]; exact ok
theorem wrF_er : ∀ (ss : List Sp) (acc t : List UInt8) (er e : Int), er ≠ 0 → wrF ss acc er = some (t, e) → e = er
  | [], acc, t, er, e, h0, h => by cases h; rfl
  | s :: r, acc, t, er, e, h0, h => by
    rw [wrF] at h
    split at h
    · cases h
    · have he : errF er (lineE s).2 = er := by unfold errF; rw [if_neg (fun hh => h0 hh.2)]
      rw [he] at h
      exact wrF_er r _ t er e h0 h
theorem write_is : ∀ (ss : List Sp) (acc t : List UInt8), wrF ss acc 0 = some (t, 0) → t.count 10 = acc.count 10 + ss.length ∧ (ss ≠ [] → t.getLast? = some 10) ∧ t.length ≤ acc.length + 7 * sumW ss + 123 * ss.length
  | [], acc, t, h => by cases h; exact ⟨rfl, fun hh => absurd rfl hh, by omega⟩
  | s :: r, acc, t, h => by
    rw [wrF] at h
    split at h
    · cases h
    · cases hl : lineF s with
      | none =>
        have e : lineE s = ([], 1) := by unfold lineE; rw [hl]
        rw [e] at h
        have := wrF_er r _ t _ 0 (by decide) h
        exact absurd this (by decide)
      | some x =>
        have e : lineE s = (x, 0) := by unfold lineE; rw [hl]
        rw [e] at h
        obtain ⟨q1, q2, q3⟩ := write_is r _ t h
        obtain ⟨⟨y, rfl, hy⟩, hlen⟩ := line_is hl
        simp only [List.count_append, List.count_eq_zero_of_not_mem hy] at q1
        simp only [List.length_append] at q3 hlen
        refine ⟨?_, fun _ => ?_, ?_⟩
        · rw [q1, List.length_cons]; simp [List.count_cons]; omega
        · cases r with
          | nil => cases h; simp
          | cons z r => exact q2 (by simp)
        · have hw : sumW (s :: r) = wtS s + sumW r := by simp [sumW]
          rw [hw, List.length_cons]
          unfold wtS
          omega
end Am
/- The law ScriptBack. -/
namespace Am
set_option linter.unusedVariables false
set_option linter.unusedSimpArgs false
set_option maxRecDepth 20000
set_option maxHeartbeats 8000000
variable {pr : Prog}

theorem spOk_R {Z : H → Int → Bool} {h : H} (hz : ∀ n, Z h n = true) {s : Sp} (o : SpR s) : SpOk Z h s :=
  ⟨o.i.k, o.i.r, o.i.i, o.i.n, fun c hc => ⟨o.i.c c hc, hz c⟩, hz _, hz _, o.f, o.d⟩
/-- What the reader answers, whatever is read. -/
def ReadsAll (pr : Prog) (E : H → Bool) (k : Nat) : Prop := ∀ (h : H) (s : List UInt8), s.length < 1000000 → E h = true → 4096 ≤ h.nx → Runs pr (.fn k) [.s s] h (fun v g => ReadTo h g s v)
theorem told_writeV {ss : List Sp} {t : List UInt8} (h : Told ss t) (hl : t.length ≤ 1048576) (hn : ss.length ≤ 4096) : writeV ss = .tup [.s t, .i .i64 0] := by
  unfold writeV
  rw [if_neg (by omega), told_write h hl]
  simp
theorem writeV_ok {ss : List Sp} {x : List UInt8} (h : writeV ss = .tup [.s x, .i .i64 0]) : ss.length ≤ 4096 ∧ wrF ss [] 0 = some (x, 0) := by
  unfold writeV at h
  split at h
  · simp at h
  · rename_i hn
    cases hw : wrF ss [] 0 with
    | none => rw [hw] at h; simp at h
    | some q =>
      obtain ⟨acc, er⟩ := q
      rw [hw] at h
      simp only at h
      split at h
      · rename_i h0
        simp at h
        exact ⟨by omega, by rw [h, h0]⟩
      · rename_i h0
        simp at h
        exact absurd h.2 h0
theorem back_law {Z E : H → Bool} {Y : H → Int → Bool} {kb kw kW kR : Nat} (hb : pr.ext kb = some (xConst (.b true))) (hwA : pr.ext kw = none) (hwf : pr.fn kw = some c_isthmuslaw23_few) (hW : pr.ext kW = some (gWr Y)) (hR : ReadsAll pr E kR)
    {h : H} (hz : ∀ g, Kept h g → ∀ n, Y g n = true) (he : ∀ g, Kept h g → E g = true) (h4 : 4096 ≤ h.nx) {p : Option (Nat × Nat)} {c : Nat} {ex : Bool} {ss : List Sp} (hI : ∀ s ∈ ss, SpI s) (hst : stepsIn h p ss.length ss) (hw : sumW ss ≤ 1000000000) (hc : ss.length ≤ c) {s : List UInt8} (hs : s.length ≤ 1000000000) :
    wpF pr (c_isthmuslaw23_ScriptBack kb kw kW kR) [.sl p ss.length c ex, .s s] h (fun v _ => v = .b true) := by
  have xb := @wpCall_ext pr kb (xConst (.b true)) hb
  have yb : ∀ g, xConst (.b true) [] g = some (.b true, g) := fun g => rfl
  have x1 := @wpCall_ext pr kW (gWr Y) hW
  unfold wpF c_isthmuslaw23_ScriptBack
  refine ⟨by simp, ?_⟩
  simp only [↓STEP, SB, looked, behind, lookOk, AAct.kind, AOp.kind, wpRes, evRes, resV, AOp.ev, bin, binI, binS, shiftI, eqV, un, bound, boundO, fill, fillRows, aggOf, keyEq, findKey, putKey, V.cells, V.flat, byteOf, bytesOf, rdOf, H.wr, H.kOf, splice, isYl, ↓reduceIte, Nat.reduceEqDiff, Nat.reduceLeDiff, Nat.reduceLT, Nat.reduceAdd, Nat.reduceSub, Nat.reduceMul, Int.reduceLT, Int.reduceLE, Int.reduceEq, Int.reduceAdd, Int.reduceSub, Int.reduceMul, Int.reduceNeg, Int.reduceToNat, reduceCtorEq, xb, yb]
  refine Runs.mono (c := .fn kw) («as» := [.sl p ss.length c ex] ++ []) (few_runs hwA hwf hst hw hc) ?_
  rintro v g ⟨rfl, rfl⟩
  have hfl := fewN_le 0 ss
  have hfs := fewN_sum 0 ss (by omega)
  have hst2 := stepsIn_take hst hfl
  obtain ⟨N, hN⟩ : ∃ N, fewN 0 ss = N := ⟨_, rfl⟩
  rw [hN] at hfl hfs hst2
  have yW : gWr Y [.sl p N c ex] g = some (writeV (ss.take N), g) := gWr_eq hst2 fun s' hs' => by
    refine spOk_of (hz g Kept.refl) (hI _ (List.mem_of_mem_take hs')) ?_
    have := wtS_le hs'
    omega
  obtain ⟨wx, wy, hwv⟩ := writeV_two (ss.take N)
  rw [hwv] at yW
  have h30 : (30000 : Int) < s.length → (30000 : Int) ≤ s.length := fun h => by omega
  by_cases hy : wy = 0
  · subst hy
    obtain ⟨hN4, hwr⟩ := writeV_ok hwv
    obtain ⟨q1, q2, q3⟩ := write_is _ _ _ hwr
    have hNl : (ss.take N).length = N := by rw [List.length_take]; omega
    rw [hNl] at q1 q3 hN4
    simp only [List.count_nil, List.length_nil, Nat.zero_add] at q1 q3
    rw [Nat.zero_add] at hfs
    have hwx : wx.length < 1000000 := by omega
    simp only [↓STEP, SB, looked, behind, lookOk, AAct.kind, AOp.kind, wpRes, evRes, resV, AOp.ev, bin, binI, binS, shiftI, eqV, un, bound, boundO, fill, fillRows, aggOf, keyEq, findKey, putKey, V.cells, V.flat, byteOf, bytesOf, rdOf, H.wr, H.kOf, splice, isYl, ↓reduceIte, Nat.reduceEqDiff, Nat.reduceLeDiff, Nat.reduceLT, Nat.reduceAdd, Nat.reduceSub, Nat.reduceMul, Int.reduceLT, Int.reduceLE, Int.reduceEq, Int.reduceAdd, Int.reduceSub, Int.reduceMul, Int.reduceNeg, Int.reduceToNat, reduceCtorEq, hN, x1, yW]
    refine Runs.mono (c := .fn kR) («as» := [.s wx] ++ []) (hR g wx hwx (he g Kept.refl) h4) ?_
    rintro v g1 ⟨hk1, p1, n1, ex1, k1, er1, rfl, hcase⟩
    rcases hcase with ⟨rfl, rfl, ss2, rfl, ht, hl2, hst1⟩ | ⟨rfl, rfl, ss2, t2, r2, ht, hl2, he2, hr2⟩ | ⟨rfl, _⟩
    · have hcnt := told_count ht
      have hNN : ss2.length = N := by omega
      have y1 : gWr Y [.sl p1 ss2.length ss2.length ex1] g1 = some (.tup [.s wx, .i .i64 0], g1) := by
        rw [gWr_eq hst1 fun x hx => spOk_R (hz _ hk1) (told_all ht x hx), told_writeV ht (by omega) hl2]
      simp only [↓STEP, SB, looked, behind, lookOk, AAct.kind, AOp.kind, wpRes, evRes, resV, AOp.ev, bin, binI, binS, shiftI, eqV, un, bound, boundO, fill, fillRows, aggOf, keyEq, findKey, putKey, V.cells, V.flat, byteOf, bytesOf, rdOf, H.wr, H.kOf, splice, isYl, ↓reduceIte, Nat.reduceEqDiff, Nat.reduceLeDiff, Nat.reduceLT, Nat.reduceAdd, Nat.reduceSub, Nat.reduceMul, Int.reduceLT, Int.reduceLE, Int.reduceEq, Int.reduceAdd, Int.reduceSub, Int.reduceMul, Int.reduceNeg, Int.reduceToNat, reduceCtorEq, x1, y1]
      refine Runs.mono (c := .fn kw) («as» := [.sl p ss.length c ex] ++ []) (few_runs hwA hwf (stepsIn_kept hst hk1) hw hc) ?_
      rintro v g2 ⟨rfl, rfl⟩
      have hNN' : ((ss2.length : Nat) : Int) = ((fewN 0 ss : Nat) : Int) := by rw [hN, hNN]
      by_cases hb30 : (30000 : Int) < s.length
      · have hk0 := hk1
        have hlen30 : (s.take 30000).length ≤ 30000 := by rw [List.length_take]; omega
        simp (maxSteps := 4000000) only [↓STEP, SB, looked, behind, lookOk, AAct.kind, AOp.kind, wpRes, evRes, resV, AOp.ev, bin, binI, binS, shiftI, eqV, un, bound, boundO, fill, fillRows, aggOf, keyEq, findKey, putKey, V.cells, V.flat, byteOf, bytesOf, rdOf, H.wr, H.kOf, splice, isYl, ↓reduceIte, Nat.reduceEqDiff, Nat.reduceLeDiff, Nat.reduceLT, Nat.reduceAdd, Nat.reduceSub, Nat.reduceMul, Int.reduceLT, Int.reduceLE, Int.reduceEq, Int.reduceAdd, Int.reduceSub, Int.reduceMul, Int.reduceNeg, Int.reduceToNat, reduceCtorEq, hb30, h30 hb30, hNN']
        refine Runs.mono (c := .fn kR) («as» := [.s (s.take 30000)] ++ []) (hR g2 _ (by omega) (he _ hk0) (Nat.le_trans h4 hk0.1)) ?_
        rintro v g9 ⟨hk9, p9, n9, ex9, k9, er9, rfl, hcase9⟩
        rcases hcase9 with ⟨rfl, rfl, s9, rfl, ht9, hl9, hst9⟩ | ⟨rfl, _⟩ | ⟨rfl, _⟩
        · have y9 : gWr Y [.sl p9 s9.length s9.length ex9] g9 = some (.tup [.s (s.take 30000), .i .i64 0], g9) := by
            rw [gWr_eq hst9 fun x hx => spOk_R (hz _ (hk0.trans hk9)) (told_all ht9 x hx), told_writeV ht9 (by omega) hl9]
          simp only [↓STEP, SB, looked, behind, lookOk, AAct.kind, AOp.kind, wpRes, evRes, resV, AOp.ev, bin, binI, binS, shiftI, eqV, un, bound, boundO, fill, fillRows, aggOf, keyEq, findKey, putKey, V.cells, V.flat, byteOf, bytesOf, rdOf, H.wr, H.kOf, splice, isYl, ↓reduceIte, Nat.reduceEqDiff, Nat.reduceLeDiff, Nat.reduceLT, Nat.reduceAdd, Nat.reduceSub, Nat.reduceMul, Int.reduceLT, Int.reduceLE, Int.reduceEq, Int.reduceAdd, Int.reduceSub, Int.reduceMul, Int.reduceNeg, Int.reduceToNat, reduceCtorEq, x1, y9]
        · simp only [↓STEP, SB, looked, behind, lookOk, AAct.kind, AOp.kind, wpRes, evRes, resV, AOp.ev, bin, binI, binS, shiftI, eqV, un, bound, boundO, fill, fillRows, aggOf, keyEq, findKey, putKey, V.cells, V.flat, byteOf, bytesOf, rdOf, H.wr, H.kOf, splice, isYl, ↓reduceIte, Nat.reduceEqDiff, Nat.reduceLeDiff, Nat.reduceLT, Nat.reduceAdd, Nat.reduceSub, Nat.reduceMul, Int.reduceLT, Int.reduceLE, Int.reduceEq, Int.reduceAdd, Int.reduceSub, Int.reduceMul, Int.reduceNeg, Int.reduceToNat, reduceCtorEq]
        · simp only [↓STEP, SB, looked, behind, lookOk, AAct.kind, AOp.kind, wpRes, evRes, resV, AOp.ev, bin, binI, binS, shiftI, eqV, un, bound, boundO, fill, fillRows, aggOf, keyEq, findKey, putKey, V.cells, V.flat, byteOf, bytesOf, rdOf, H.wr, H.kOf, splice, isYl, ↓reduceIte, Nat.reduceEqDiff, Nat.reduceLeDiff, Nat.reduceLT, Nat.reduceAdd, Nat.reduceSub, Nat.reduceMul, Int.reduceLT, Int.reduceLE, Int.reduceEq, Int.reduceAdd, Int.reduceSub, Int.reduceMul, Int.reduceNeg, Int.reduceToNat, reduceCtorEq]
      · have hk0 := hk1
        have hlen30 : (s).length ≤ 30000 := by omega
        simp (maxSteps := 4000000) only [↓STEP, SB, looked, behind, lookOk, AAct.kind, AOp.kind, wpRes, evRes, resV, AOp.ev, bin, binI, binS, shiftI, eqV, un, bound, boundO, fill, fillRows, aggOf, keyEq, findKey, putKey, V.cells, V.flat, byteOf, bytesOf, rdOf, H.wr, H.kOf, splice, isYl, ↓reduceIte, Nat.reduceEqDiff, Nat.reduceLeDiff, Nat.reduceLT, Nat.reduceAdd, Nat.reduceSub, Nat.reduceMul, Int.reduceLT, Int.reduceLE, Int.reduceEq, Int.reduceAdd, Int.reduceSub, Int.reduceMul, Int.reduceNeg, Int.reduceToNat, reduceCtorEq, hb30, hNN']
        refine Runs.mono (c := .fn kR) («as» := [.s (s)] ++ []) (hR g2 _ (by omega) (he _ hk0) (Nat.le_trans h4 hk0.1)) ?_
        rintro v g9 ⟨hk9, p9, n9, ex9, k9, er9, rfl, hcase9⟩
        rcases hcase9 with ⟨rfl, rfl, s9, rfl, ht9, hl9, hst9⟩ | ⟨rfl, _⟩ | ⟨rfl, _⟩
        · have y9 : gWr Y [.sl p9 s9.length s9.length ex9] g9 = some (.tup [.s (s), .i .i64 0], g9) := by
            rw [gWr_eq hst9 fun x hx => spOk_R (hz _ (hk0.trans hk9)) (told_all ht9 x hx), told_writeV ht9 (by omega) hl9]
          simp only [↓STEP, SB, looked, behind, lookOk, AAct.kind, AOp.kind, wpRes, evRes, resV, AOp.ev, bin, binI, binS, shiftI, eqV, un, bound, boundO, fill, fillRows, aggOf, keyEq, findKey, putKey, V.cells, V.flat, byteOf, bytesOf, rdOf, H.wr, H.kOf, splice, isYl, ↓reduceIte, Nat.reduceEqDiff, Nat.reduceLeDiff, Nat.reduceLT, Nat.reduceAdd, Nat.reduceSub, Nat.reduceMul, Int.reduceLT, Int.reduceLE, Int.reduceEq, Int.reduceAdd, Int.reduceSub, Int.reduceMul, Int.reduceNeg, Int.reduceToNat, reduceCtorEq, x1, y9]
        · simp only [↓STEP, SB, looked, behind, lookOk, AAct.kind, AOp.kind, wpRes, evRes, resV, AOp.ev, bin, binI, binS, shiftI, eqV, un, bound, boundO, fill, fillRows, aggOf, keyEq, findKey, putKey, V.cells, V.flat, byteOf, bytesOf, rdOf, H.wr, H.kOf, splice, isYl, ↓reduceIte, Nat.reduceEqDiff, Nat.reduceLeDiff, Nat.reduceLT, Nat.reduceAdd, Nat.reduceSub, Nat.reduceMul, Int.reduceLT, Int.reduceLE, Int.reduceEq, Int.reduceAdd, Int.reduceSub, Int.reduceMul, Int.reduceNeg, Int.reduceToNat, reduceCtorEq]
        · simp only [↓STEP, SB, looked, behind, lookOk, AAct.kind, AOp.kind, wpRes, evRes, resV, AOp.ev, bin, binI, binS, shiftI, eqV, un, bound, boundO, fill, fillRows, aggOf, keyEq, findKey, putKey, V.cells, V.flat, byteOf, bytesOf, rdOf, H.wr, H.kOf, splice, isYl, ↓reduceIte, Nat.reduceEqDiff, Nat.reduceLeDiff, Nat.reduceLT, Nat.reduceAdd, Nat.reduceSub, Nat.reduceMul, Int.reduceLT, Int.reduceLE, Int.reduceEq, Int.reduceAdd, Int.reduceSub, Int.reduceMul, Int.reduceNeg, Int.reduceToNat, reduceCtorEq]
    · exfalso
      have hc2 := told_count ht
      have hcw : wx.count 10 = t2.count 10 + r2.count 10 := by rw [he2, List.count_append]
      have hne : ss.take N ≠ [] := by
        intro hh
        rw [hh] at hNl
        simp at hNl
        omega
      have hlast := q2 hne
      rw [he2, List.getLast?_append] at hlast
      have hr3 : r2.getLast? = some (r2.getLast hr2) := List.getLast?_eq_some_getLast hr2
      rw [hr3] at hlast
      simp only [Option.some_or, Option.some.injEq] at hlast
      have hm : 10 ∈ r2 := by rw [← hlast]; exact List.getLast_mem hr2
      have := List.count_pos_iff.2 hm
      omega
    · simp only [↓STEP, SB, looked, behind, lookOk, AAct.kind, AOp.kind, wpRes, evRes, resV, AOp.ev, bin, binI, binS, shiftI, eqV, un, bound, boundO, fill, fillRows, aggOf, keyEq, findKey, putKey, V.cells, V.flat, byteOf, bytesOf, rdOf, H.wr, H.kOf, splice, isYl, ↓reduceIte, Nat.reduceEqDiff, Nat.reduceLeDiff, Nat.reduceLT, Nat.reduceAdd, Nat.reduceSub, Nat.reduceMul, Int.reduceLT, Int.reduceLE, Int.reduceEq, Int.reduceAdd, Int.reduceSub, Int.reduceMul, Int.reduceNeg, Int.reduceToNat, reduceCtorEq]
      by_cases hb30 : (30000 : Int) < s.length
      · have hk0 := hk1
        have hlen30 : (s.take 30000).length ≤ 30000 := by rw [List.length_take]; omega
        simp (maxSteps := 4000000) only [↓STEP, SB, looked, behind, lookOk, AAct.kind, AOp.kind, wpRes, evRes, resV, AOp.ev, bin, binI, binS, shiftI, eqV, un, bound, boundO, fill, fillRows, aggOf, keyEq, findKey, putKey, V.cells, V.flat, byteOf, bytesOf, rdOf, H.wr, H.kOf, splice, isYl, ↓reduceIte, Nat.reduceEqDiff, Nat.reduceLeDiff, Nat.reduceLT, Nat.reduceAdd, Nat.reduceSub, Nat.reduceMul, Int.reduceLT, Int.reduceLE, Int.reduceEq, Int.reduceAdd, Int.reduceSub, Int.reduceMul, Int.reduceNeg, Int.reduceToNat, reduceCtorEq, hb30, h30 hb30]
        refine Runs.mono (c := .fn kR) («as» := [.s (s.take 30000)] ++ []) (hR g1 _ (by omega) (he _ hk0) (Nat.le_trans h4 hk0.1)) ?_
        rintro v g9 ⟨hk9, p9, n9, ex9, k9, er9, rfl, hcase9⟩
        rcases hcase9 with ⟨rfl, rfl, s9, rfl, ht9, hl9, hst9⟩ | ⟨rfl, _⟩ | ⟨rfl, _⟩
        · have y9 : gWr Y [.sl p9 s9.length s9.length ex9] g9 = some (.tup [.s (s.take 30000), .i .i64 0], g9) := by
            rw [gWr_eq hst9 fun x hx => spOk_R (hz _ (hk0.trans hk9)) (told_all ht9 x hx), told_writeV ht9 (by omega) hl9]
          simp only [↓STEP, SB, looked, behind, lookOk, AAct.kind, AOp.kind, wpRes, evRes, resV, AOp.ev, bin, binI, binS, shiftI, eqV, un, bound, boundO, fill, fillRows, aggOf, keyEq, findKey, putKey, V.cells, V.flat, byteOf, bytesOf, rdOf, H.wr, H.kOf, splice, isYl, ↓reduceIte, Nat.reduceEqDiff, Nat.reduceLeDiff, Nat.reduceLT, Nat.reduceAdd, Nat.reduceSub, Nat.reduceMul, Int.reduceLT, Int.reduceLE, Int.reduceEq, Int.reduceAdd, Int.reduceSub, Int.reduceMul, Int.reduceNeg, Int.reduceToNat, reduceCtorEq, x1, y9]
        · simp only [↓STEP, SB, looked, behind, lookOk, AAct.kind, AOp.kind, wpRes, evRes, resV, AOp.ev, bin, binI, binS, shiftI, eqV, un, bound, boundO, fill, fillRows, aggOf, keyEq, findKey, putKey, V.cells, V.flat, byteOf, bytesOf, rdOf, H.wr, H.kOf, splice, isYl, ↓reduceIte, Nat.reduceEqDiff, Nat.reduceLeDiff, Nat.reduceLT, Nat.reduceAdd, Nat.reduceSub, Nat.reduceMul, Int.reduceLT, Int.reduceLE, Int.reduceEq, Int.reduceAdd, Int.reduceSub, Int.reduceMul, Int.reduceNeg, Int.reduceToNat, reduceCtorEq]
        · simp only [↓STEP, SB, looked, behind, lookOk, AAct.kind, AOp.kind, wpRes, evRes, resV, AOp.ev, bin, binI, binS, shiftI, eqV, un, bound, boundO, fill, fillRows, aggOf, keyEq, findKey, putKey, V.cells, V.flat, byteOf, bytesOf, rdOf, H.wr, H.kOf, splice, isYl, ↓reduceIte, Nat.reduceEqDiff, Nat.reduceLeDiff, Nat.reduceLT, Nat.reduceAdd, Nat.reduceSub, Nat.reduceMul, Int.reduceLT, Int.reduceLE, Int.reduceEq, Int.reduceAdd, Int.reduceSub, Int.reduceMul, Int.reduceNeg, Int.reduceToNat, reduceCtorEq]
      · have hk0 := hk1
        have hlen30 : (s).length ≤ 30000 := by omega
        simp (maxSteps := 4000000) only [↓STEP, SB, looked, behind, lookOk, AAct.kind, AOp.kind, wpRes, evRes, resV, AOp.ev, bin, binI, binS, shiftI, eqV, un, bound, boundO, fill, fillRows, aggOf, keyEq, findKey, putKey, V.cells, V.flat, byteOf, bytesOf, rdOf, H.wr, H.kOf, splice, isYl, ↓reduceIte, Nat.reduceEqDiff, Nat.reduceLeDiff, Nat.reduceLT, Nat.reduceAdd, Nat.reduceSub, Nat.reduceMul, Int.reduceLT, Int.reduceLE, Int.reduceEq, Int.reduceAdd, Int.reduceSub, Int.reduceMul, Int.reduceNeg, Int.reduceToNat, reduceCtorEq, hb30]
        refine Runs.mono (c := .fn kR) («as» := [.s (s)] ++ []) (hR g1 _ (by omega) (he _ hk0) (Nat.le_trans h4 hk0.1)) ?_
        rintro v g9 ⟨hk9, p9, n9, ex9, k9, er9, rfl, hcase9⟩
        rcases hcase9 with ⟨rfl, rfl, s9, rfl, ht9, hl9, hst9⟩ | ⟨rfl, _⟩ | ⟨rfl, _⟩
        · have y9 : gWr Y [.sl p9 s9.length s9.length ex9] g9 = some (.tup [.s (s), .i .i64 0], g9) := by
            rw [gWr_eq hst9 fun x hx => spOk_R (hz _ (hk0.trans hk9)) (told_all ht9 x hx), told_writeV ht9 (by omega) hl9]
          simp only [↓STEP, SB, looked, behind, lookOk, AAct.kind, AOp.kind, wpRes, evRes, resV, AOp.ev, bin, binI, binS, shiftI, eqV, un, bound, boundO, fill, fillRows, aggOf, keyEq, findKey, putKey, V.cells, V.flat, byteOf, bytesOf, rdOf, H.wr, H.kOf, splice, isYl, ↓reduceIte, Nat.reduceEqDiff, Nat.reduceLeDiff, Nat.reduceLT, Nat.reduceAdd, Nat.reduceSub, Nat.reduceMul, Int.reduceLT, Int.reduceLE, Int.reduceEq, Int.reduceAdd, Int.reduceSub, Int.reduceMul, Int.reduceNeg, Int.reduceToNat, reduceCtorEq, x1, y9]
        · simp only [↓STEP, SB, looked, behind, lookOk, AAct.kind, AOp.kind, wpRes, evRes, resV, AOp.ev, bin, binI, binS, shiftI, eqV, un, bound, boundO, fill, fillRows, aggOf, keyEq, findKey, putKey, V.cells, V.flat, byteOf, bytesOf, rdOf, H.wr, H.kOf, splice, isYl, ↓reduceIte, Nat.reduceEqDiff, Nat.reduceLeDiff, Nat.reduceLT, Nat.reduceAdd, Nat.reduceSub, Nat.reduceMul, Int.reduceLT, Int.reduceLE, Int.reduceEq, Int.reduceAdd, Int.reduceSub, Int.reduceMul, Int.reduceNeg, Int.reduceToNat, reduceCtorEq]
        · simp only [↓STEP, SB, looked, behind, lookOk, AAct.kind, AOp.kind, wpRes, evRes, resV, AOp.ev, bin, binI, binS, shiftI, eqV, un, bound, boundO, fill, fillRows, aggOf, keyEq, findKey, putKey, V.cells, V.flat, byteOf, bytesOf, rdOf, H.wr, H.kOf, splice, isYl, ↓reduceIte, Nat.reduceEqDiff, Nat.reduceLeDiff, Nat.reduceLT, Nat.reduceAdd, Nat.reduceSub, Nat.reduceMul, Int.reduceLT, Int.reduceLE, Int.reduceEq, Int.reduceAdd, Int.reduceSub, Int.reduceMul, Int.reduceNeg, Int.reduceToNat, reduceCtorEq]
  · simp only [↓STEP, SB, looked, behind, lookOk, AAct.kind, AOp.kind, wpRes, evRes, resV, AOp.ev, bin, binI, binS, shiftI, eqV, un, bound, boundO, fill, fillRows, aggOf, keyEq, findKey, putKey, V.cells, V.flat, byteOf, bytesOf, rdOf, H.wr, H.kOf, splice, isYl, ↓reduceIte, Nat.reduceEqDiff, Nat.reduceLeDiff, Nat.reduceLT, Nat.reduceAdd, Nat.reduceSub, Nat.reduceMul, Int.reduceLT, Int.reduceLE, Int.reduceEq, Int.reduceAdd, Int.reduceSub, Int.reduceMul, Int.reduceNeg, Int.reduceToNat, reduceCtorEq, hN, x1, yW, hy]
    by_cases hb30 : (30000 : Int) < s.length
    · have hk0 := (Kept.refl (h := g))
      have hlen30 : (s.take 30000).length ≤ 30000 := by rw [List.length_take]; omega
      simp (maxSteps := 4000000) only [↓STEP, SB, looked, behind, lookOk, AAct.kind, AOp.kind, wpRes, evRes, resV, AOp.ev, bin, binI, binS, shiftI, eqV, un, bound, boundO, fill, fillRows, aggOf, keyEq, findKey, putKey, V.cells, V.flat, byteOf, bytesOf, rdOf, H.wr, H.kOf, splice, isYl, ↓reduceIte, Nat.reduceEqDiff, Nat.reduceLeDiff, Nat.reduceLT, Nat.reduceAdd, Nat.reduceSub, Nat.reduceMul, Int.reduceLT, Int.reduceLE, Int.reduceEq, Int.reduceAdd, Int.reduceSub, Int.reduceMul, Int.reduceNeg, Int.reduceToNat, reduceCtorEq, hb30, h30 hb30]
      refine Runs.mono (c := .fn kR) («as» := [.s (s.take 30000)] ++ []) (hR g _ (by omega) (he _ hk0) (Nat.le_trans h4 hk0.1)) ?_
      rintro v g9 ⟨hk9, p9, n9, ex9, k9, er9, rfl, hcase9⟩
      rcases hcase9 with ⟨rfl, rfl, s9, rfl, ht9, hl9, hst9⟩ | ⟨rfl, _⟩ | ⟨rfl, _⟩
      · have y9 : gWr Y [.sl p9 s9.length s9.length ex9] g9 = some (.tup [.s (s.take 30000), .i .i64 0], g9) := by
          rw [gWr_eq hst9 fun x hx => spOk_R (hz _ (hk0.trans hk9)) (told_all ht9 x hx), told_writeV ht9 (by omega) hl9]
        simp only [↓STEP, SB, looked, behind, lookOk, AAct.kind, AOp.kind, wpRes, evRes, resV, AOp.ev, bin, binI, binS, shiftI, eqV, un, bound, boundO, fill, fillRows, aggOf, keyEq, findKey, putKey, V.cells, V.flat, byteOf, bytesOf, rdOf, H.wr, H.kOf, splice, isYl, ↓reduceIte, Nat.reduceEqDiff, Nat.reduceLeDiff, Nat.reduceLT, Nat.reduceAdd, Nat.reduceSub, Nat.reduceMul, Int.reduceLT, Int.reduceLE, Int.reduceEq, Int.reduceAdd, Int.reduceSub, Int.reduceMul, Int.reduceNeg, Int.reduceToNat, reduceCtorEq, x1, y9]
      · simp only [↓STEP, SB, looked, behind, lookOk, AAct.kind, AOp.kind, wpRes, evRes, resV, AOp.ev, bin, binI, binS, shiftI, eqV, un, bound, boundO, fill, fillRows, aggOf, keyEq, findKey, putKey, V.cells, V.flat, byteOf, bytesOf, rdOf, H.wr, H.kOf, splice, isYl, ↓reduceIte, Nat.reduceEqDiff, Nat.reduceLeDiff, Nat.reduceLT, Nat.reduceAdd, Nat.reduceSub, Nat.reduceMul, Int.reduceLT, Int.reduceLE, Int.reduceEq, Int.reduceAdd, Int.reduceSub, Int.reduceMul, Int.reduceNeg, Int.reduceToNat, reduceCtorEq]
      · simp only [↓STEP, SB, looked, behind, lookOk, AAct.kind, AOp.kind, wpRes, evRes, resV, AOp.ev, bin, binI, binS, shiftI, eqV, un, bound, boundO, fill, fillRows, aggOf, keyEq, findKey, putKey, V.cells, V.flat, byteOf, bytesOf, rdOf, H.wr, H.kOf, splice, isYl, ↓reduceIte, Nat.reduceEqDiff, Nat.reduceLeDiff, Nat.reduceLT, Nat.reduceAdd, Nat.reduceSub, Nat.reduceMul, Int.reduceLT, Int.reduceLE, Int.reduceEq, Int.reduceAdd, Int.reduceSub, Int.reduceMul, Int.reduceNeg, Int.reduceToNat, reduceCtorEq]
    · have hk0 := (Kept.refl (h := g))
      have hlen30 : (s).length ≤ 30000 := by omega
      simp (maxSteps := 4000000) only [↓STEP, SB, looked, behind, lookOk, AAct.kind, AOp.kind, wpRes, evRes, resV, AOp.ev, bin, binI, binS, shiftI, eqV, un, bound, boundO, fill, fillRows, aggOf, keyEq, findKey, putKey, V.cells, V.flat, byteOf, bytesOf, rdOf, H.wr, H.kOf, splice, isYl, ↓reduceIte, Nat.reduceEqDiff, Nat.reduceLeDiff, Nat.reduceLT, Nat.reduceAdd, Nat.reduceSub, Nat.reduceMul, Int.reduceLT, Int.reduceLE, Int.reduceEq, Int.reduceAdd, Int.reduceSub, Int.reduceMul, Int.reduceNeg, Int.reduceToNat, reduceCtorEq, hb30]
      refine Runs.mono (c := .fn kR) («as» := [.s (s)] ++ []) (hR g _ (by omega) (he _ hk0) (Nat.le_trans h4 hk0.1)) ?_
      rintro v g9 ⟨hk9, p9, n9, ex9, k9, er9, rfl, hcase9⟩
      rcases hcase9 with ⟨rfl, rfl, s9, rfl, ht9, hl9, hst9⟩ | ⟨rfl, _⟩ | ⟨rfl, _⟩
      · have y9 : gWr Y [.sl p9 s9.length s9.length ex9] g9 = some (.tup [.s (s), .i .i64 0], g9) := by
          rw [gWr_eq hst9 fun x hx => spOk_R (hz _ (hk0.trans hk9)) (told_all ht9 x hx), told_writeV ht9 (by omega) hl9]
        simp only [↓STEP, SB, looked, behind, lookOk, AAct.kind, AOp.kind, wpRes, evRes, resV, AOp.ev, bin, binI, binS, shiftI, eqV, un, bound, boundO, fill, fillRows, aggOf, keyEq, findKey, putKey, V.cells, V.flat, byteOf, bytesOf, rdOf, H.wr, H.kOf, splice, isYl, ↓reduceIte, Nat.reduceEqDiff, Nat.reduceLeDiff, Nat.reduceLT, Nat.reduceAdd, Nat.reduceSub, Nat.reduceMul, Int.reduceLT, Int.reduceLE, Int.reduceEq, Int.reduceAdd, Int.reduceSub, Int.reduceMul, Int.reduceNeg, Int.reduceToNat, reduceCtorEq, x1, y9]
      · simp only [↓STEP, SB, looked, behind, lookOk, AAct.kind, AOp.kind, wpRes, evRes, resV, AOp.ev, bin, binI, binS, shiftI, eqV, un, bound, boundO, fill, fillRows, aggOf, keyEq, findKey, putKey, V.cells, V.flat, byteOf, bytesOf, rdOf, H.wr, H.kOf, splice, isYl, ↓reduceIte, Nat.reduceEqDiff, Nat.reduceLeDiff, Nat.reduceLT, Nat.reduceAdd, Nat.reduceSub, Nat.reduceMul, Int.reduceLT, Int.reduceLE, Int.reduceEq, Int.reduceAdd, Int.reduceSub, Int.reduceMul, Int.reduceNeg, Int.reduceToNat, reduceCtorEq]
      · simp only [↓STEP, SB, looked, behind, lookOk, AAct.kind, AOp.kind, wpRes, evRes, resV, AOp.ev, bin, binI, binS, shiftI, eqV, un, bound, boundO, fill, fillRows, aggOf, keyEq, findKey, putKey, V.cells, V.flat, byteOf, bytesOf, rdOf, H.wr, H.kOf, splice, isYl, ↓reduceIte, Nat.reduceEqDiff, Nat.reduceLeDiff, Nat.reduceLT, Nat.reduceAdd, Nat.reduceSub, Nat.reduceMul, Int.reduceLT, Int.reduceLE, Int.reduceEq, Int.reduceAdd, Int.reduceSub, Int.reduceMul, Int.reduceNeg, Int.reduceToNat, reduceCtorEq]
end Am
