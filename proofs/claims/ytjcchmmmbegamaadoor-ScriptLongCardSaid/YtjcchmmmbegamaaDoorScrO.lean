/- Script texts: what a letter's word is read as, in the program. -/
import Derived.Test.YtjcchmmmbegamaaDoorScrK
import Derived.Test.YtjcchmmmbegamaaDoorScrH
import Derived.Lib.ParseIntB
namespace Am
set_option linter.unusedVariables false
set_option linter.unusedSimpArgs false
set_option maxRecDepth 20000
set_option maxHeartbeats 8000000
variable {pr : Prog}

/-- A number read. -/
def wholeF (l : List UInt8) (m : Int) : Int × Bool :=
  match Go.Lib.parseIntB 64 l with
  | .ok v => (v, decide (0 ≤ v) && decide (v ≤ m) && decide (itoF v = l))
  | .«syntax» => (0, false)
  | .range => (Go.Lib.intSat 64 l, false)
theorem wholeF_ok {l : List UInt8} {m n : Int} (h : wholeF l m = (n, true)) : 0 ≤ n ∧ n ≤ m ∧ itoF n = l := by
  unfold wholeF at h
  split at h
  · rename_i v hv
    simp only [Prod.mk.injEq, Bool.and_eq_true, decide_eq_true_eq] at h
    obtain ⟨rfl, ⟨h1, h2⟩, h3⟩ := h
    exact ⟨h1, h2, h3⟩
  · cases h
  · cases h
def gWhole (E : H → Bool) (ys : List V) (h : H) : Option (V × H) :=
  match ys with
  | [.s l, .i .i64 m] => if E h = true ∧ l.length ≤ 1000000 then some (.tup [.i .i64 (wholeF l m).1, .b (wholeF l m).2], h) else none
  | _ => none
theorem gWhole_eq {E : H → Bool} {l : List UInt8} {m : Int} {h : H} (hE : E h = true) (hl : l.length ≤ 1000000) : gWhole E [.s l, .i .i64 m] h = some (.tup [.i .i64 (wholeF l m).1, .b (wholeF l m).2], h) := if_pos ⟨hE, hl⟩
structure SpR (s : Sp) : Prop where
  i : SpI s
  f : totF s.fs ≤ 1000000
  d : s.d.length ≤ 1000000
/-- Blocks that are only read, from below a place, are as they were. -/
def Eok (E : H → Bool) : Prop := ∀ h g, h.nx ≤ g.nx → (∀ i, i < 4096 → g.get i = h.get i) → E h = true → E g = true
theorem rowsIn_but {h g : H} {b k : Nat} {a : Option (Nat × Nat)} {n kb : Nat} {rs all : List (List V)} {ro : Bool} (hr : rowsIn h k a n rs) (hb : h.get b = some (.rows kb all ro)) (hne : kb ≠ k) (hk : KeptBut b h g) : rowsIn g k a n rs := by
  obtain ⟨h1, h2⟩ := hr
  refine ⟨h1, ?_⟩
  rcases h2 with h2 | ⟨c, r, al, ro', e, hc, hg, hat⟩
  · exact .inl h2
  · refine .inr ⟨c, r, al, ro', e, Nat.lt_of_lt_of_le hc hk.1, ?_, hat⟩
    rw [hk.2 c hc ?_]; exact hg
    rintro rfl
    rw [hb] at hg; cases hg; exact hne rfl
theorem rdB_but {h g : H} {b n kb : Nat} {a : Option (Nat × Nat)} {l : List UInt8} {all : List (List V)} {ro : Bool} (hr : rdB h a n = some l) (hb : h.get b = some (.rows kb all ro)) (hk : KeptBut b h g) : rdB g a n = some l := by
  have h1 := rdB_bseg hr
  have h2 := rdB_lt hr
  refine rdB_of ?_ fun c hc => Nat.lt_of_lt_of_le (h2 c hc) hk.1
  by_cases h0 : n = 0
  · subst h0; rw [bseg_zero] at h1 ⊢; exact h1
  · obtain ⟨c, r, bs, ro', rfl, hg, hle, rfl, _⟩ := bseg_open h1 (by omega)
    unfold H.bseg
    rw [if_neg h0]
    have hcb : c ≠ b := by rintro rfl; rw [hb] at hg; cases hg
    simp only [hk.2 c (h2 c rfl) hcb, hg]
    rw [if_pos hle]
theorem spRow_but {h g : H} {b kb : Nat} {s : Sp} {row : List V} {all : List (List V)} {ro : Bool} (hr : spRow h s row) (hb : h.get b = some (.rows kb all ro)) (hne : kb ≠ 3) (hk : KeptBut b h g) : spRow g s row := by
  obtain ⟨p, fn, fc, fex, q, dn, dc, dex, h1, h2, h3⟩ := hr
  exact ⟨p, fn, fc, fex, q, dn, dc, dex, h1, rowsIn_but h2 hb hne hk, rdB_but h3 hb hk⟩
/-- What is read of a letter's word. -/
structure ReadsTo (b : Nat) (h g : H) (s : Sp) (c : UInt8) (w : List UInt8) (v : V) : Prop where
  but : KeptBut b h g
  is : v = .b false ∨ (v = .b true ∧ ∃ s' row', g.get b = some (.rows 12 [row'] false) ∧ spRow g s' row' ∧ SpR s' ∧ s'.k = s.k ∧ (c ≠ 66 → s'.d = s.d) ∧ partF s' (c.toNat : Int) = (w, true) ∧ ∀ c' : UInt8, c' ∈ letters → c' ≠ c → partF s' (c'.toNat : Int) = partF s (c'.toNat : Int))
theorem reads_fin {b : Nat} {h g : H} {s s' : Sp} {row' : List V} {all : List (List V)} {ro : Bool} {c : UInt8} {w : List UInt8} (hk : KeptBut b h g) (hgb : g.get b = some (.rows 12 all ro)) (hr : spRow g s' row') (ok : SpR s') (hk' : s'.k = s.k) (hd : c ≠ 66 → s'.d = s.d) (hp : partF s' (c.toNat : Int) = (w, true)) (ho : ∀ c' : UInt8, c' ∈ letters → c' ≠ c → partF s' (c'.toNat : Int) = partF s (c'.toNat : Int)) :
    ReadsTo b h (g.set b (.rows 12 [row'] false)) s c w (.b true) :=
  ⟨⟨hk.1, fun i hi hne => by rw [H.get_set, if_neg hne]; exact hk.2 i hi hne⟩, .inr ⟨rfl, s', row', by rw [H.get_set, if_pos rfl], spRow_but hr hgb (by decide) (KeptBut.setb KeptBut.refl), ok, hk', hd, hp, ho⟩⟩
theorem KeptBut.of_kept {b : Nat} {h g : H} (hk : Kept h g) : KeptBut b h g := ⟨hk.1, fun i hi _ => hk.2 i hi⟩
theorem i64_1 : i64In 1 := ⟨by decide, by decide⟩
theorem i64_2 : i64In 2 := ⟨by decide, by decide⟩
theorem reads_bad {b : Nat} {h g : H} {s : Sp} {c : UInt8} {w : List UInt8} {X : Blk} (hk : Kept h g) : ReadsTo b h (g.set b X) s c w (.b false) :=
  ⟨⟨hk.1, fun i hi hne => by rw [H.get_set, if_neg hne]; exact hk.2 i hi⟩, .inl rfl⟩
theorem readV_cases (w : List UInt8) : (∃ t, readT w = some t ∧ readV w = .tup [.s t, .i .i64 0]) ∨ (readV w = .tup [.s [], .i .i64 12]) := by
  unfold readT readV
  generalize cutF w = o
  match o with
  | some (t, []) => exact .inl ⟨t, rfl, rfl⟩
  | some (t, c :: r) => exact .inr rfl
  | none => exact .inr rfl
theorem reads_runs {E : H → Bool} (hE : Eok E) {k kF kw kT : Nat} (hA : pr.ext k = none) (hfn : pr.fn k = some (c_script_reads kF kw kT)) (hF : pr.ext kF = some gRF) (hW : pr.ext kw = some (gWhole E)) (hT : pr.ext kT = some gRT)
    {h : H} {b : Nat} {row : List V} {s : Sp} (hb : h.get b = some (.rows 12 [row] false)) (hlt : b < h.nx) (hb4 : 4096 ≤ b) (hrow : spRow h s row) (ok : SpR s) (he : E h = true) {c : UInt8} {w : List UInt8} (hw : w.length ≤ 1000000) (hc : c = 70 ∨ c = 82 ∨ c = 73 ∨ c = 66 ∨ c = 69 ∨ c = 78) (hd0 : c = 66 → s.d = []) :
    Runs pr (.fn k) [.p (some (b, 0, 0)), .i .u8 (c.toNat : Nat), .s w] h (fun v g => ReadsTo b h g s c w v) := by
  refine runs_of_wpF hA hfn ?_
  obtain ⟨p, fn, fc, fex, q, dn, dc, dex, rfl, hfs, hd⟩ := hrow
  unfold wpF c_script_reads
  refine ⟨by simp, ?_⟩
  have hc0 := @wpCall_ext pr kF gRF hF
  have hc1 := @wpCall_ext pr kw (gWhole E) hW
  have hc2 := @wpCall_ext pr kT gRT hT
  have oth : ∀ (s' : Sp) (c0 : UInt8), (c0 ≠ 70 → s'.fs = s.fs) → (c0 ≠ 82 → s'.r = s.r) → (c0 ≠ 73 → s'.i = s.i) → (c0 ≠ 66 → s'.d = s.d) → (c0 ≠ 69 → s'.e = s.e) → (c0 ≠ 78 → s'.n = s.n) → s'.cs = s.cs → ∀ c' : UInt8, c' ∈ letters → c' ≠ c0 → partF s' (c'.toNat : Int) = partF s (c'.toNat : Int) := by
    intro s' c0 e1 e2 e3 e4 e5 e6 e7 c' hc' hne
    unfold letters at hc'
    simp only [List.mem_cons, List.not_mem_nil, or_false] at hc'
    rcases hc' with rfl | rfl | rfl | rfl | rfl | rfl | rfl
    · simp [partF, e1 (Ne.symm hne)]
    · simp [partF, e2 (Ne.symm hne)]
    · simp [partF, e3 (Ne.symm hne)]
    · simp [partF, e4 (Ne.symm hne)]
    · simp [partF, e5 (Ne.symm hne)]
    · simp [partF, e6 (Ne.symm hne)]
    · simp [partF, e7]
  have t70 : (((70 : UInt8).toNat : Nat) : Int) = 70 := rfl
  have t82 : (((82 : UInt8).toNat : Nat) : Int) = 82 := rfl
  have t73 : (((73 : UInt8).toNat : Nat) : Int) = 73 := rfl
  have t66 : (((66 : UInt8).toNat : Nat) : Int) = 66 := rfl
  have t69 : (((69 : UInt8).toNat : Nat) : Int) = 69 := rfl
  have t78 : (((78 : UInt8).toNat : Nat) : Int) = 78 := rfl
  have hnb : ∀ X : Blk, KeptBut b h (h.set b X) := fun X => KeptBut.setb KeptBut.refl
  have n1 : ([115] : List UInt8) = [99] ↔ False := by decide
  have n2 : ([109, 111, 114, 101] : List UInt8) = [101, 110, 100] ↔ False := by decide
  rcases hc with rfl | rfl | rfl | rfl | rfl | rfl
  · cases hrf : readF w with
    | some fs =>
      obtain ⟨a, n, ex, g, e1, l1, r1, k1⟩ := fieldsV_rd h fs
      have x0 : gRF [.s w] h = some (.tup [.sl a n n ex, .i .i64 0], g) := by rw [gRF_eq (by omega), hrf, e1]
      have hgb := k1.2 b hlt
      rw [hb] at hgb
      have hinv := readF_inv hrf
      have htl := totF_le fs
      simp only [↓STEP, SB, looked, behind, lookOk, AAct.kind, AOp.kind, wpRes, evRes, resV, AOp.ev, bin, binI, binS, shiftI, eqV, un, bound, boundO, fill, fillRows, aggOf, keyEq, findKey, putKey, V.cells, V.flat, byteOf, bytesOf, rdOf, H.wr, H.kOf, splice, isYl, ↓reduceIte, Nat.reduceEqDiff, Nat.reduceLeDiff, Nat.reduceLT, Nat.reduceAdd, Nat.reduceSub, Nat.reduceMul, Int.reduceLT, Int.reduceLE, Int.reduceEq, Int.reduceAdd, Int.reduceSub, Int.reduceMul, Int.reduceNeg, Int.reduceToNat, reduceCtorEq, hc0, x0, hgb, t70]
      exact reads_fin (s' := { s with fs := fs }) (KeptBut.of_kept k1) hgb ⟨a, n, n, ex, q, dn, dc, dex, rfl, r1, rdB_kept hd k1⟩ ⟨⟨ok.i.k, ok.i.r, ok.i.i, ok.i.n, ok.i.c⟩, by rw [hinv] at htl; exact Nat.le_trans htl hw, ok.d⟩ rfl (fun _ => rfl) (by simp [partF, hinv]) (oth _ 70 (fun h => absurd rfl h) (fun _ => rfl) (fun _ => rfl) (fun _ => rfl) (fun _ => rfl) (fun _ => rfl) rfl)
    | none =>
      have x0 : gRF [.s w] h = some (.tup [.sl none 0 0 true, .i .i64 12], h) := by rw [gRF_eq (by omega), hrf]; rfl
      simp only [↓STEP, SB, looked, behind, lookOk, AAct.kind, AOp.kind, wpRes, evRes, resV, AOp.ev, bin, binI, binS, shiftI, eqV, un, bound, boundO, fill, fillRows, aggOf, keyEq, findKey, putKey, V.cells, V.flat, byteOf, bytesOf, rdOf, H.wr, H.kOf, splice, isYl, ↓reduceIte, Nat.reduceEqDiff, Nat.reduceLeDiff, Nat.reduceLT, Nat.reduceAdd, Nat.reduceSub, Nat.reduceMul, Int.reduceLT, Int.reduceLE, Int.reduceEq, Int.reduceAdd, Int.reduceSub, Int.reduceMul, Int.reduceNeg, Int.reduceToNat, reduceCtorEq, hc0, x0, hb, t70]
      exact reads_bad Kept.refl
  · by_cases hs : w = [115]
    · simp only [↓STEP, SB, looked, behind, lookOk, AAct.kind, AOp.kind, wpRes, evRes, resV, AOp.ev, bin, binI, binS, shiftI, eqV, un, bound, boundO, fill, fillRows, aggOf, keyEq, findKey, putKey, V.cells, V.flat, byteOf, bytesOf, rdOf, H.wr, H.kOf, splice, isYl, ↓reduceIte, Nat.reduceEqDiff, Nat.reduceLeDiff, Nat.reduceLT, Nat.reduceAdd, Nat.reduceSub, Nat.reduceMul, Int.reduceLT, Int.reduceLE, Int.reduceEq, Int.reduceAdd, Int.reduceSub, Int.reduceMul, Int.reduceNeg, Int.reduceToNat, reduceCtorEq, hb, t82, hs, n1]
      exact reads_fin (s' := { s with r := 2 }) (KeptBut.setb KeptBut.refl) (by rw [H.get_set, if_pos rfl]) ⟨p, fn, fc, fex, q, dn, dc, dex, rfl, rowsIn_but hfs hb (by decide) (KeptBut.setb KeptBut.refl), rdB_but hd hb (KeptBut.setb KeptBut.refl)⟩ ⟨⟨ok.i.k, i64_2, ok.i.i, ok.i.n, ok.i.c⟩, ok.f, ok.d⟩ rfl (fun _ => rfl) (by simp [partF, roleT]) (oth _ 82 (fun _ => rfl) (fun h => absurd rfl h) (fun _ => rfl) (fun _ => rfl) (fun _ => rfl) (fun _ => rfl) rfl)
    · by_cases hcc : w = [99]
      · subst hcc
        simp only [↓STEP, SB, looked, behind, lookOk, AAct.kind, AOp.kind, wpRes, evRes, resV, AOp.ev, bin, binI, binS, shiftI, eqV, un, bound, boundO, fill, fillRows, aggOf, keyEq, findKey, putKey, V.cells, V.flat, byteOf, bytesOf, rdOf, H.wr, H.kOf, splice, isYl, ↓reduceIte, Nat.reduceEqDiff, Nat.reduceLeDiff, Nat.reduceLT, Nat.reduceAdd, Nat.reduceSub, Nat.reduceMul, Int.reduceLT, Int.reduceLE, Int.reduceEq, Int.reduceAdd, Int.reduceSub, Int.reduceMul, Int.reduceNeg, Int.reduceToNat, reduceCtorEq, hb, t82, hs]
        exact reads_fin (s' := { s with r := 1 }) KeptBut.refl hb ⟨p, fn, fc, fex, q, dn, dc, dex, rfl, hfs, hd⟩ ⟨⟨ok.i.k, i64_1, ok.i.i, ok.i.n, ok.i.c⟩, ok.f, ok.d⟩ rfl (fun _ => rfl) (by simp [partF, roleT]) (oth _ 82 (fun _ => rfl) (fun h => absurd rfl h) (fun _ => rfl) (fun _ => rfl) (fun _ => rfl) (fun _ => rfl) rfl)
      · simp only [↓STEP, SB, looked, behind, lookOk, AAct.kind, AOp.kind, wpRes, evRes, resV, AOp.ev, bin, binI, binS, shiftI, eqV, un, bound, boundO, fill, fillRows, aggOf, keyEq, findKey, putKey, V.cells, V.flat, byteOf, bytesOf, rdOf, H.wr, H.kOf, splice, isYl, ↓reduceIte, Nat.reduceEqDiff, Nat.reduceLeDiff, Nat.reduceLT, Nat.reduceAdd, Nat.reduceSub, Nat.reduceMul, Int.reduceLT, Int.reduceLE, Int.reduceEq, Int.reduceAdd, Int.reduceSub, Int.reduceMul, Int.reduceNeg, Int.reduceToNat, reduceCtorEq, hb, t82, hs, hcc]
        exact reads_bad Kept.refl
  · have x1 := gWhole_eq (m := 2147483647) he hw
    cases hwf : wholeF w 2147483647 with
    | mk wn wb =>
      rw [hwf] at x1
      simp only at x1
      simp only [↓STEP, SB, looked, behind, lookOk, AAct.kind, AOp.kind, wpRes, evRes, resV, AOp.ev, bin, binI, binS, shiftI, eqV, un, bound, boundO, fill, fillRows, aggOf, keyEq, findKey, putKey, V.cells, V.flat, byteOf, bytesOf, rdOf, H.wr, H.kOf, splice, isYl, ↓reduceIte, Nat.reduceEqDiff, Nat.reduceLeDiff, Nat.reduceLT, Nat.reduceAdd, Nat.reduceSub, Nat.reduceMul, Int.reduceLT, Int.reduceLE, Int.reduceEq, Int.reduceAdd, Int.reduceSub, Int.reduceMul, Int.reduceNeg, Int.reduceToNat, reduceCtorEq, hb, t73, hc1, x1]
      cases wb with
      | false => exact reads_bad Kept.refl
      | true =>
        obtain ⟨v1, v2, v3⟩ := wholeF_ok hwf
        exact reads_fin (s' := { s with i := wn }) KeptBut.refl hb ⟨p, fn, fc, fex, q, dn, dc, dex, rfl, hfs, hd⟩ ⟨⟨ok.i.k, ok.i.r, ⟨by show _ ≤ wn; omega, by show wn ≤ _; omega⟩, ok.i.n, ok.i.c⟩, ok.f, ok.d⟩ rfl (fun _ => rfl) (by simp [partF, v1, v3]) (oth _ 73 (fun _ => rfl) (fun _ => rfl) (fun h => absurd rfl h) (fun _ => rfl) (fun _ => rfl) (fun _ => rfl) rfl)
  · have hd0 := hd0 rfl
    have x2 : gRT [.s w] h = some (readV w, h) := gRT_eq (by omega)
    rcases readV_cases w with ⟨tx, q1, q2⟩ | q2
    · rw [q2] at x2
      have hinv := readT_inv q1
      have hge := tx_ge tx
      rw [hinv] at hge
      by_cases ht : tx = []
      · subst ht
        simp only [↓STEP, SB, looked, behind, lookOk, AAct.kind, AOp.kind, wpRes, evRes, resV, AOp.ev, bin, binI, binS, shiftI, eqV, un, bound, boundO, fill, fillRows, aggOf, keyEq, findKey, putKey, V.cells, V.flat, byteOf, bytesOf, rdOf, H.wr, H.kOf, splice, isYl, ↓reduceIte, Nat.reduceEqDiff, Nat.reduceLeDiff, Nat.reduceLT, Nat.reduceAdd, Nat.reduceSub, Nat.reduceMul, Int.reduceLT, Int.reduceLE, Int.reduceEq, Int.reduceAdd, Int.reduceSub, Int.reduceMul, Int.reduceNeg, Int.reduceToNat, reduceCtorEq, hb, t66, hc2, x2]
        exact ⟨KeptBut.refl, .inr ⟨rfl, s, _, hb, ⟨p, fn, fc, fex, q, dn, dc, dex, rfl, hfs, hd⟩, ok, rfl, fun h => absurd rfl h, by simp [partF, hd0, hinv], fun _ _ _ => rfl⟩⟩
      · have hkp : Kept h (h.push (.bytes tx false)) := Kept.push Kept.refl
        have hgp : (h.push (.bytes tx false)).get b = some (.rows 12 [[.i .i64 s.k, .i .i64 s.r, .i .i64 s.i, .i .i64 s.n, .sl p fn fc fex, .sl q dn dc dex, .b s.e, .i .i64 s.c1, .i .i64 s.c2, .i .i64 s.c3, .i .i64 s.c4, .i .i64 s.c5]] false) := by rw [hkp.2 b hlt]; exact hb
        have hrd : rdB (h.push (.bytes tx false)) (some (h.nx, 0)) tx.length = some tx := rdB_of (bseg_tmp h tx) fun c hc => by cases hc; exact Nat.lt_succ_self _
        have hnb2 : ¬ b = h.nx := by omega
        simp only [↓STEP, SB, looked, behind, lookOk, AAct.kind, AOp.kind, wpRes, evRes, resV, AOp.ev, bin, binI, binS, shiftI, eqV, un, bound, boundO, fill, fillRows, aggOf, keyEq, findKey, putKey, V.cells, V.flat, byteOf, bytesOf, rdOf, H.wr, H.kOf, splice, isYl, ↓reduceIte, Nat.reduceEqDiff, Nat.reduceLeDiff, Nat.reduceLT, Nat.reduceAdd, Nat.reduceSub, Nat.reduceMul, Int.reduceLT, Int.reduceLE, Int.reduceEq, Int.reduceAdd, Int.reduceSub, Int.reduceMul, Int.reduceNeg, Int.reduceToNat, reduceCtorEq, hb, t66, hc2, x2, ht, hnb2]
        exact reads_fin (s' := { s with d := tx }) (KeptBut.of_kept hkp) hgp ⟨p, fn, fc, fex, some (h.nx, 0), tx.length, _, _, rfl, rowsIn_kept hfs hkp, hrd⟩ ⟨⟨ok.i.k, ok.i.r, ok.i.i, ok.i.n, ok.i.c⟩, ok.f, by show tx.length ≤ _; omega⟩ rfl (fun h => absurd rfl h) (by simp [partF, hinv]) (oth _ 66 (fun _ => rfl) (fun _ => rfl) (fun _ => rfl) (fun h => absurd rfl h) (fun _ => rfl) (fun _ => rfl) rfl)
    · rw [q2] at x2
      simp only [↓STEP, SB, looked, behind, lookOk, AAct.kind, AOp.kind, wpRes, evRes, resV, AOp.ev, bin, binI, binS, shiftI, eqV, un, bound, boundO, fill, fillRows, aggOf, keyEq, findKey, putKey, V.cells, V.flat, byteOf, bytesOf, rdOf, H.wr, H.kOf, splice, isYl, ↓reduceIte, Nat.reduceEqDiff, Nat.reduceLeDiff, Nat.reduceLT, Nat.reduceAdd, Nat.reduceSub, Nat.reduceMul, Int.reduceLT, Int.reduceLE, Int.reduceEq, Int.reduceAdd, Int.reduceSub, Int.reduceMul, Int.reduceNeg, Int.reduceToNat, reduceCtorEq, hb, t66, hc2, x2]
      exact ⟨KeptBut.refl, .inl rfl⟩
  · by_cases he1 : w = [101, 110, 100]
    · simp only [↓STEP, SB, looked, behind, lookOk, AAct.kind, AOp.kind, wpRes, evRes, resV, AOp.ev, bin, binI, binS, shiftI, eqV, un, bound, boundO, fill, fillRows, aggOf, keyEq, findKey, putKey, V.cells, V.flat, byteOf, bytesOf, rdOf, H.wr, H.kOf, splice, isYl, ↓reduceIte, Nat.reduceEqDiff, Nat.reduceLeDiff, Nat.reduceLT, Nat.reduceAdd, Nat.reduceSub, Nat.reduceMul, Int.reduceLT, Int.reduceLE, Int.reduceEq, Int.reduceAdd, Int.reduceSub, Int.reduceMul, Int.reduceNeg, Int.reduceToNat, reduceCtorEq, hb, t69, he1]
      exact reads_fin (s' := { s with e := true }) KeptBut.refl hb ⟨p, fn, fc, fex, q, dn, dc, dex, rfl, hfs, hd⟩ ⟨⟨ok.i.k, ok.i.r, ok.i.i, ok.i.n, ok.i.c⟩, ok.f, ok.d⟩ rfl (fun _ => rfl) (by simp [partF, endT]) (oth _ 69 (fun _ => rfl) (fun _ => rfl) (fun _ => rfl) (fun _ => rfl) (fun h => absurd rfl h) (fun _ => rfl) rfl)
    · by_cases he2 : w = [109, 111, 114, 101]
      · simp only [↓STEP, SB, looked, behind, lookOk, AAct.kind, AOp.kind, wpRes, evRes, resV, AOp.ev, bin, binI, binS, shiftI, eqV, un, bound, boundO, fill, fillRows, aggOf, keyEq, findKey, putKey, V.cells, V.flat, byteOf, bytesOf, rdOf, H.wr, H.kOf, splice, isYl, ↓reduceIte, Nat.reduceEqDiff, Nat.reduceLeDiff, Nat.reduceLT, Nat.reduceAdd, Nat.reduceSub, Nat.reduceMul, Int.reduceLT, Int.reduceLE, Int.reduceEq, Int.reduceAdd, Int.reduceSub, Int.reduceMul, Int.reduceNeg, Int.reduceToNat, reduceCtorEq, hb, t69, he2, n2]
        exact reads_fin (s' := { s with e := false }) KeptBut.refl hb ⟨p, fn, fc, fex, q, dn, dc, dex, rfl, hfs, hd⟩ ⟨⟨ok.i.k, ok.i.r, ok.i.i, ok.i.n, ok.i.c⟩, ok.f, ok.d⟩ rfl (fun _ => rfl) (by simp [partF, endT]) (oth _ 69 (fun _ => rfl) (fun _ => rfl) (fun _ => rfl) (fun _ => rfl) (fun h => absurd rfl h) (fun _ => rfl) rfl)
      · simp only [↓STEP, SB, looked, behind, lookOk, AAct.kind, AOp.kind, wpRes, evRes, resV, AOp.ev, bin, binI, binS, shiftI, eqV, un, bound, boundO, fill, fillRows, aggOf, keyEq, findKey, putKey, V.cells, V.flat, byteOf, bytesOf, rdOf, H.wr, H.kOf, splice, isYl, ↓reduceIte, Nat.reduceEqDiff, Nat.reduceLeDiff, Nat.reduceLT, Nat.reduceAdd, Nat.reduceSub, Nat.reduceMul, Int.reduceLT, Int.reduceLE, Int.reduceEq, Int.reduceAdd, Int.reduceSub, Int.reduceMul, Int.reduceNeg, Int.reduceToNat, reduceCtorEq, hb, t69, he1, he2]
        exact reads_bad Kept.refl
  · have x1 := gWhole_eq (m := 1099511627776) he hw
    cases hwf : wholeF w 1099511627776 with
    | mk wn wb =>
      rw [hwf] at x1
      simp only at x1
      simp only [↓STEP, SB, looked, behind, lookOk, AAct.kind, AOp.kind, wpRes, evRes, resV, AOp.ev, bin, binI, binS, shiftI, eqV, un, bound, boundO, fill, fillRows, aggOf, keyEq, findKey, putKey, V.cells, V.flat, byteOf, bytesOf, rdOf, H.wr, H.kOf, splice, isYl, ↓reduceIte, Nat.reduceEqDiff, Nat.reduceLeDiff, Nat.reduceLT, Nat.reduceAdd, Nat.reduceSub, Nat.reduceMul, Int.reduceLT, Int.reduceLE, Int.reduceEq, Int.reduceAdd, Int.reduceSub, Int.reduceMul, Int.reduceNeg, Int.reduceToNat, reduceCtorEq, hb, t78, hc1, x1]
      cases wb with
      | false => exact reads_bad Kept.refl
      | true =>
        obtain ⟨v1, v2, v3⟩ := wholeF_ok hwf
        exact reads_fin (s' := { s with n := wn }) KeptBut.refl hb ⟨p, fn, fc, fex, q, dn, dc, dex, rfl, hfs, hd⟩ ⟨⟨ok.i.k, ok.i.r, ok.i.i, ⟨by show _ ≤ wn; omega, by show wn ≤ _; omega⟩, ok.i.c⟩, ok.f, ok.d⟩ rfl (fun _ => rfl) (by simp [partF, v1, v3]) (oth _ 78 (fun _ => rfl) (fun _ => rfl) (fun _ => rfl) (fun _ => rfl) (fun _ => rfl) (fun h => absurd rfl h) rfl)
end Am
/- Script texts: five numbers read, in the program. -/
namespace Am
set_option linter.unusedVariables false
set_option linter.unusedSimpArgs false
set_option maxRecDepth 20000
set_option maxHeartbeats 8000000
variable {pr : Prog}

theorem settings_runs {E : H → Bool} (hE : Eok E) {k kw : Nat} (hA : pr.ext k = none) (hfn : pr.fn k = some (c_script_settings kw)) (hW : pr.ext kw = some (gWhole E))
    {h : H} {b : Nat} {row : List V} {s : Sp} (hb : h.get b = some (.rows 12 [row] false)) (hlt : b < h.nx) (hb4 : 4096 ≤ b) (hrow : spRow h s row) (ok : SpR s) (he : E h = true)
    {W r n c : Nat} {ex : Bool} {all : List (List V)} {ro : Bool} (hg : h.get W = some (.rows 1 all ro)) (hWl : W < h.nx) (hn5 : n = 5) {w0 w1 w2 w3 w4 : List UInt8}
    (a0 : all[r]? = some [.s w0]) (a1 : all[r + 1]? = some [.s w1]) (a2 : all[r + 2]? = some [.s w2]) (a3 : all[r + 3]? = some [.s w3]) (a4 : all[r + 4]? = some [.s w4])
    (l0 : w0.length ≤ 1000000) (l1 : w1.length ≤ 1000000) (l2 : w2.length ≤ 1000000) (l3 : w3.length ≤ 1000000) (l4 : w4.length ≤ 1000000) :
    Runs pr (.fn k) [.p (some (b, 0, 0)), .sl (some (W, r)) n c ex] h (fun v g => ReadsTo b h g s 67 (joinS [w0, w1, w2, w3, w4] [32]) v) := by
  subst hn5
  refine runs_of_wpF hA hfn ?_
  obtain ⟨p, fn, fc, fex, q, dn, dc, dex, rfl, hfs, hd⟩ := hrow
  have hWb : ¬ W = b := by rintro rfl; rw [hb] at hg; cases hg
  have n1 : ¬ b = h.nx := by omega
  have n2 : ¬ h.nx = b := by omega
  have n3 : ¬ W = h.nx := by omega
  have hc1 := @wpCall_ext pr kw (gWhole E) hW
  have e1 : ∀ X, E (h.push X) = true := fun X => hE h _ (Nat.le_succ _) (fun i hi => by rw [H.get_push, if_neg (by omega)]) he
  have e2 : ∀ X Y, E ((h.push X).set b Y) = true := fun X Y => hE (h.push X) _ (Nat.le_refl _) (fun i hi => by rw [H.get_set, if_neg (by omega)]) (e1 X)
  have e3 : ∀ X Y Z, E (((h.push X).set b Y).set b Z) = true := fun X Y Z => hE ((h.push X).set b Y) _ (Nat.le_refl _) (fun i hi => by rw [H.get_set, if_neg (by omega)]) (e2 X Y)
  have e4 : ∀ X Y Z A, E ((((h.push X).set b Y).set b Z).set b A) = true := fun X Y Z A => hE (((h.push X).set b Y).set b Z) _ (Nat.le_refl _) (fun i hi => by rw [H.get_set, if_neg (by omega)]) (e3 X Y Z)
  have e5 : ∀ X Y Z A B, E (((((h.push X).set b Y).set b Z).set b A).set b B) = true := fun X Y Z A B => hE ((((h.push X).set b Y).set b Z).set b A) _ (Nat.le_refl _) (fun i hi => by rw [H.get_set, if_neg (by omega)]) (e4 X Y Z A)
  have u1 : Go.IntKind.wrap .i64 1 = 1 := by decide
  have u2 : Go.IntKind.wrap .i64 2 = 2 := by decide
  have u3 : Go.IntKind.wrap .i64 3 = 3 := by decide
  have u4 : Go.IntKind.wrap .i64 4 = 4 := by decide
  have u5 : Go.IntKind.wrap .i64 5 = 5 := by decide
  unfold wpF c_script_settings
  refine ⟨by simp, ?_⟩
  simp only [↓STEP, SB, looked, behind, lookOk, AAct.kind, AOp.kind, wpRes, evRes, resV, AOp.ev, bin, binI, binS, shiftI, eqV, un, bound, boundO, fill, fillRows, aggOf, keyEq, findKey, putKey, V.cells, V.flat, byteOf, bytesOf, rdOf, H.wr, H.kOf, splice, isYl, ↓reduceIte, Nat.reduceEqDiff, Nat.reduceLeDiff, Nat.reduceLT, Nat.reduceAdd, Nat.reduceSub, Nat.reduceMul, Int.reduceLT, Int.reduceLE, Int.reduceEq, Int.reduceAdd, Int.reduceSub, Int.reduceMul, Int.reduceNeg, Int.reduceToNat, reduceCtorEq, hb, n1, n2]
  refine wpA_loop ?_
  have x0 : ∀ X, gWhole E [.s w0, .i .i64 1099511627776] (h.push X) = some (.tup [.i .i64 (wholeF w0 1099511627776).1, .b (wholeF w0 1099511627776).2], h.push X) := fun X => gWhole_eq (e1 X) l0
  have x1 : ∀ X Y, gWhole E [.s w1, .i .i64 1099511627776] ((h.push X).set b Y) = some (.tup [.i .i64 (wholeF w1 1099511627776).1, .b (wholeF w1 1099511627776).2], (h.push X).set b Y) := fun X Y => gWhole_eq (e2 X Y) l1
  have x2 : ∀ X Y Z, gWhole E [.s w2, .i .i64 1099511627776] (((h.push X).set b Y).set b Z) = some (.tup [.i .i64 (wholeF w2 1099511627776).1, .b (wholeF w2 1099511627776).2], ((h.push X).set b Y).set b Z) := fun X Y Z => gWhole_eq (e3 X Y Z) l2
  have x3 : ∀ X Y Z A, gWhole E [.s w3, .i .i64 1099511627776] ((((h.push X).set b Y).set b Z).set b A) = some (.tup [.i .i64 (wholeF w3 1099511627776).1, .b (wholeF w3 1099511627776).2], (((h.push X).set b Y).set b Z).set b A) := fun X Y Z A => gWhole_eq (e4 X Y Z A) l3
  have x4 : ∀ X Y Z A B, gWhole E [.s w4, .i .i64 1099511627776] (((((h.push X).set b Y).set b Z).set b A).set b B) = some (.tup [.i .i64 (wholeF w4 1099511627776).1, .b (wholeF w4 1099511627776).2], ((((h.push X).set b Y).set b Z).set b A).set b B) := fun X Y Z A B => gWhole_eq (e5 X Y Z A B) l4
  generalize hf0 : wholeF w0 1099511627776 = f0 at x0
  obtain ⟨m0, b0⟩ := f0
  generalize hf1 : wholeF w1 1099511627776 = f1 at x1
  obtain ⟨m1, b1⟩ := f1
  generalize hf2 : wholeF w2 1099511627776 = f2 at x2
  obtain ⟨m2, b2⟩ := f2
  generalize hf3 : wholeF w3 1099511627776 = f3 at x3
  obtain ⟨m3, b3⟩ := f3
  generalize hf4 : wholeF w4 1099511627776 = f4 at x4
  obtain ⟨m4, b4⟩ := f4
  simp only at x0 x1 x2 x3 x4
  cases b0 with
  | false =>
    simp only [↓STEP, SB, looked, behind, lookOk, AAct.kind, AOp.kind, wpRes, evRes, resV, AOp.ev, bin, binI, binS, shiftI, eqV, un, bound, boundO, fill, fillRows, aggOf, keyEq, findKey, putKey, V.cells, V.flat, byteOf, bytesOf, rdOf, H.wr, H.kOf, splice, isYl, ↓reduceIte, Nat.reduceEqDiff, Nat.reduceLeDiff, Nat.reduceLT, Nat.reduceAdd, Nat.reduceSub, Nat.reduceMul, Int.reduceLT, Int.reduceLE, Int.reduceEq, Int.reduceAdd, Int.reduceSub, Int.reduceMul, Int.reduceNeg, Int.reduceToNat, reduceCtorEq, hb, hg, n1, n2, n3, hWb, a0, a1, a2, a3, a4, hc1, u1, u2, u3, u4, u5, x0]
    exact ⟨by (repeat (first | exact KeptBut.refl | apply KeptBut.push | apply KeptBut.setb | refine KeptBut.kill ?_ (by omega) | refine KeptBut.set ?_ (by omega))), .inl rfl⟩
  | true =>
    simp only [↓STEP, SB, looked, behind, lookOk, AAct.kind, AOp.kind, wpRes, evRes, resV, AOp.ev, bin, binI, binS, shiftI, eqV, un, bound, boundO, fill, fillRows, aggOf, keyEq, findKey, putKey, V.cells, V.flat, byteOf, bytesOf, rdOf, H.wr, H.kOf, splice, isYl, ↓reduceIte, Nat.reduceEqDiff, Nat.reduceLeDiff, Nat.reduceLT, Nat.reduceAdd, Nat.reduceSub, Nat.reduceMul, Int.reduceLT, Int.reduceLE, Int.reduceEq, Int.reduceAdd, Int.reduceSub, Int.reduceMul, Int.reduceNeg, Int.reduceToNat, reduceCtorEq, hb, hg, n1, n2, n3, hWb, a0, a1, a2, a3, a4, hc1, u1, u2, u3, u4, u5, x0]
    refine wpA_loop ?_
    cases b1 with
    | false =>
      simp only [↓STEP, SB, looked, behind, lookOk, AAct.kind, AOp.kind, wpRes, evRes, resV, AOp.ev, bin, binI, binS, shiftI, eqV, un, bound, boundO, fill, fillRows, aggOf, keyEq, findKey, putKey, V.cells, V.flat, byteOf, bytesOf, rdOf, H.wr, H.kOf, splice, isYl, ↓reduceIte, Nat.reduceEqDiff, Nat.reduceLeDiff, Nat.reduceLT, Nat.reduceAdd, Nat.reduceSub, Nat.reduceMul, Int.reduceLT, Int.reduceLE, Int.reduceEq, Int.reduceAdd, Int.reduceSub, Int.reduceMul, Int.reduceNeg, Int.reduceToNat, reduceCtorEq, hb, hg, n1, n2, n3, hWb, a0, a1, a2, a3, a4, hc1, u1, u2, u3, u4, u5, x1]
      exact ⟨by (repeat (first | exact KeptBut.refl | apply KeptBut.push | apply KeptBut.setb | refine KeptBut.kill ?_ (by omega) | refine KeptBut.set ?_ (by omega))), .inl rfl⟩
    | true =>
      simp only [↓STEP, SB, looked, behind, lookOk, AAct.kind, AOp.kind, wpRes, evRes, resV, AOp.ev, bin, binI, binS, shiftI, eqV, un, bound, boundO, fill, fillRows, aggOf, keyEq, findKey, putKey, V.cells, V.flat, byteOf, bytesOf, rdOf, H.wr, H.kOf, splice, isYl, ↓reduceIte, Nat.reduceEqDiff, Nat.reduceLeDiff, Nat.reduceLT, Nat.reduceAdd, Nat.reduceSub, Nat.reduceMul, Int.reduceLT, Int.reduceLE, Int.reduceEq, Int.reduceAdd, Int.reduceSub, Int.reduceMul, Int.reduceNeg, Int.reduceToNat, reduceCtorEq, hb, hg, n1, n2, n3, hWb, a0, a1, a2, a3, a4, hc1, u1, u2, u3, u4, u5, x1]
      refine wpA_loop ?_
      cases b2 with
      | false =>
        simp only [↓STEP, SB, looked, behind, lookOk, AAct.kind, AOp.kind, wpRes, evRes, resV, AOp.ev, bin, binI, binS, shiftI, eqV, un, bound, boundO, fill, fillRows, aggOf, keyEq, findKey, putKey, V.cells, V.flat, byteOf, bytesOf, rdOf, H.wr, H.kOf, splice, isYl, ↓reduceIte, Nat.reduceEqDiff, Nat.reduceLeDiff, Nat.reduceLT, Nat.reduceAdd, Nat.reduceSub, Nat.reduceMul, Int.reduceLT, Int.reduceLE, Int.reduceEq, Int.reduceAdd, Int.reduceSub, Int.reduceMul, Int.reduceNeg, Int.reduceToNat, reduceCtorEq, hb, hg, n1, n2, n3, hWb, a0, a1, a2, a3, a4, hc1, u1, u2, u3, u4, u5, x2]
        exact ⟨by (repeat (first | exact KeptBut.refl | apply KeptBut.push | apply KeptBut.setb | refine KeptBut.kill ?_ (by omega) | refine KeptBut.set ?_ (by omega))), .inl rfl⟩
      | true =>
        simp only [↓STEP, SB, looked, behind, lookOk, AAct.kind, AOp.kind, wpRes, evRes, resV, AOp.ev, bin, binI, binS, shiftI, eqV, un, bound, boundO, fill, fillRows, aggOf, keyEq, findKey, putKey, V.cells, V.flat, byteOf, bytesOf, rdOf, H.wr, H.kOf, splice, isYl, ↓reduceIte, Nat.reduceEqDiff, Nat.reduceLeDiff, Nat.reduceLT, Nat.reduceAdd, Nat.reduceSub, Nat.reduceMul, Int.reduceLT, Int.reduceLE, Int.reduceEq, Int.reduceAdd, Int.reduceSub, Int.reduceMul, Int.reduceNeg, Int.reduceToNat, reduceCtorEq, hb, hg, n1, n2, n3, hWb, a0, a1, a2, a3, a4, hc1, u1, u2, u3, u4, u5, x2]
        refine wpA_loop ?_
        cases b3 with
        | false =>
          simp only [↓STEP, SB, looked, behind, lookOk, AAct.kind, AOp.kind, wpRes, evRes, resV, AOp.ev, bin, binI, binS, shiftI, eqV, un, bound, boundO, fill, fillRows, aggOf, keyEq, findKey, putKey, V.cells, V.flat, byteOf, bytesOf, rdOf, H.wr, H.kOf, splice, isYl, ↓reduceIte, Nat.reduceEqDiff, Nat.reduceLeDiff, Nat.reduceLT, Nat.reduceAdd, Nat.reduceSub, Nat.reduceMul, Int.reduceLT, Int.reduceLE, Int.reduceEq, Int.reduceAdd, Int.reduceSub, Int.reduceMul, Int.reduceNeg, Int.reduceToNat, reduceCtorEq, hb, hg, n1, n2, n3, hWb, a0, a1, a2, a3, a4, hc1, u1, u2, u3, u4, u5, x3]
          exact ⟨by (repeat (first | exact KeptBut.refl | apply KeptBut.push | apply KeptBut.setb | refine KeptBut.kill ?_ (by omega) | refine KeptBut.set ?_ (by omega))), .inl rfl⟩
        | true =>
          simp only [↓STEP, SB, looked, behind, lookOk, AAct.kind, AOp.kind, wpRes, evRes, resV, AOp.ev, bin, binI, binS, shiftI, eqV, un, bound, boundO, fill, fillRows, aggOf, keyEq, findKey, putKey, V.cells, V.flat, byteOf, bytesOf, rdOf, H.wr, H.kOf, splice, isYl, ↓reduceIte, Nat.reduceEqDiff, Nat.reduceLeDiff, Nat.reduceLT, Nat.reduceAdd, Nat.reduceSub, Nat.reduceMul, Int.reduceLT, Int.reduceLE, Int.reduceEq, Int.reduceAdd, Int.reduceSub, Int.reduceMul, Int.reduceNeg, Int.reduceToNat, reduceCtorEq, hb, hg, n1, n2, n3, hWb, a0, a1, a2, a3, a4, hc1, u1, u2, u3, u4, u5, x3]
          refine wpA_loop ?_
          cases b4 with
          | false =>
            simp only [↓STEP, SB, looked, behind, lookOk, AAct.kind, AOp.kind, wpRes, evRes, resV, AOp.ev, bin, binI, binS, shiftI, eqV, un, bound, boundO, fill, fillRows, aggOf, keyEq, findKey, putKey, V.cells, V.flat, byteOf, bytesOf, rdOf, H.wr, H.kOf, splice, isYl, ↓reduceIte, Nat.reduceEqDiff, Nat.reduceLeDiff, Nat.reduceLT, Nat.reduceAdd, Nat.reduceSub, Nat.reduceMul, Int.reduceLT, Int.reduceLE, Int.reduceEq, Int.reduceAdd, Int.reduceSub, Int.reduceMul, Int.reduceNeg, Int.reduceToNat, reduceCtorEq, hb, hg, n1, n2, n3, hWb, a0, a1, a2, a3, a4, hc1, u1, u2, u3, u4, u5, x4]
            exact ⟨by (repeat (first | exact KeptBut.refl | apply KeptBut.push | apply KeptBut.setb | refine KeptBut.kill ?_ (by omega) | refine KeptBut.set ?_ (by omega))), .inl rfl⟩
          | true =>
            simp only [↓STEP, SB, looked, behind, lookOk, AAct.kind, AOp.kind, wpRes, evRes, resV, AOp.ev, bin, binI, binS, shiftI, eqV, un, bound, boundO, fill, fillRows, aggOf, keyEq, findKey, putKey, V.cells, V.flat, byteOf, bytesOf, rdOf, H.wr, H.kOf, splice, isYl, ↓reduceIte, Nat.reduceEqDiff, Nat.reduceLeDiff, Nat.reduceLT, Nat.reduceAdd, Nat.reduceSub, Nat.reduceMul, Int.reduceLT, Int.reduceLE, Int.reduceEq, Int.reduceAdd, Int.reduceSub, Int.reduceMul, Int.reduceNeg, Int.reduceToNat, reduceCtorEq, hb, hg, n1, n2, n3, hWb, a0, a1, a2, a3, a4, hc1, u1, u2, u3, u4, u5, x4]
            refine wpA_loop ?_
            simp only [↓STEP, SB, looked, behind, lookOk, AAct.kind, AOp.kind, wpRes, evRes, resV, AOp.ev, bin, binI, binS, shiftI, eqV, un, bound, boundO, fill, fillRows, aggOf, keyEq, findKey, putKey, V.cells, V.flat, byteOf, bytesOf, rdOf, H.wr, H.kOf, splice, isYl, ↓reduceIte, Nat.reduceEqDiff, Nat.reduceLeDiff, Nat.reduceLT, Nat.reduceAdd, Nat.reduceSub, Nat.reduceMul, Int.reduceLT, Int.reduceLE, Int.reduceEq, Int.reduceAdd, Int.reduceSub, Int.reduceMul, Int.reduceNeg, Int.reduceToNat, reduceCtorEq, hb, n1, n2]
            obtain ⟨p0, q0, r0⟩ := wholeF_ok hf0
            obtain ⟨p1, q1, r1⟩ := wholeF_ok hf1
            obtain ⟨p2, q2, r2⟩ := wholeF_ok hf2
            obtain ⟨p3, q3, r3⟩ := wholeF_ok hf3
            obtain ⟨p4, q4, r4⟩ := wholeF_ok hf4
            refine reads_fin (s' := { s with c1 := m0, c2 := m1, c3 := m2, c4 := m3, c5 := m4 }) (by (repeat (first | exact KeptBut.refl | apply KeptBut.push | apply KeptBut.setb | refine KeptBut.kill ?_ (by omega) | refine KeptBut.set ?_ (by omega)))) (by rw [H.get_set, if_pos rfl]) ⟨p, fn, fc, fex, q, dn, dc, dex, rfl, rowsIn_but hfs hb (by decide) (by (repeat (first | exact KeptBut.refl | apply KeptBut.push | apply KeptBut.setb | refine KeptBut.kill ?_ (by omega) | refine KeptBut.set ?_ (by omega)))), rdB_but hd hb (by (repeat (first | exact KeptBut.refl | apply KeptBut.push | apply KeptBut.setb | refine KeptBut.kill ?_ (by omega) | refine KeptBut.set ?_ (by omega))))⟩ ⟨⟨ok.i.k, ok.i.r, ok.i.i, ok.i.n, fun c hc => ?_⟩, ok.f, ok.d⟩ rfl (fun _ => rfl) (by simp [partF, Sp.cs, p0, p1, p2, p3, p4, r0, r1, r2, r3, r4]) fun c' hc' hne => ?_
            · simp only [Sp.cs, List.mem_cons, List.not_mem_nil, or_false] at hc
              rcases hc with rfl | rfl | rfl | rfl | rfl <;> exact ⟨by omega, by omega⟩
            · unfold letters at hc'
              simp only [List.mem_cons, List.not_mem_nil, or_false] at hc'
              rcases hc' with rfl | rfl | rfl | rfl | rfl | rfl | rfl
              · rfl
              · rfl
              · rfl
              · rfl
              · rfl
              · rfl
              · exact absurd rfl hne
end Am
