/- What was asked is read again: the lines are good ones. -/
import Derived.Test.YtibmhhdgcbaofaaDoorAskR7
namespace Am
set_option linter.unusedVariables false
set_option linter.unusedSimpArgs false
set_option maxRecDepth 20000
set_option maxHeartbeats 4000000

theorem ps_all : ∀ (fs : List Fd) (m0 : PM) (reg : Bool) (m : PM), psF m0 reg fs = some m → ∃ k, k ≤ fs.length ∧ (reg = true → k = 0) ∧ m.length = m0.length + k ∧ (∀ f ∈ fs, valueB f.v = true) ∧ (∀ f ∈ fs.drop k, nameB f.n = true ∧ barredB f.n = false)
  | [], m0, reg, m, h => by cases h; exact ⟨0, Nat.le_refl _, fun _ => rfl, rfl, by simp, by simp⟩
  | f :: fs, m0, reg, m, h => by
    simp only [psF] at h
    split at h
    · cases h
    rename_i hv
    have hv : valueB f.v = true := by simpa using hv
    split at h
    · split at h
      · cases h
      · rename_i hl
        obtain ⟨k, h1, h2, h3, h4, h5⟩ := ps_all fs _ _ _ h
        refine ⟨k + 1, by simp; omega, fun hr => ?_, by rw [h3]; simp; omega, fun g hg => ?_, fun g hg => h5 g (by simpa using hg)⟩
        · rw [hr] at hl; simp at hl
        · rcases List.mem_cons.1 hg with rfl | hg
          · exact hv
          · exact h4 g hg
    · split at h
      · cases h
      rename_i hn
      split at h
      · cases h
      rename_i hb
      split at h
      · cases h
      obtain ⟨k, h1, h2, h3, h4, h5⟩ := ps_all fs _ _ _ h
      have hk := h2 rfl
      subst hk
      refine ⟨0, Nat.zero_le _, fun _ => rfl, h3, fun g hg => ?_, fun g hg => ?_⟩
      · rcases List.mem_cons.1 hg with rfl | hg
        · exact hv
        · exact h4 g hg
      · rw [List.drop_zero] at hg h5
        rcases List.mem_cons.1 hg with rfl | hg
        · exact ⟨by simpa using hn, by simpa using hb⟩
        · exact h5 g hg
theorem req_all {fs : List Fd} (h : tellP reqP fs = true) : (∀ f ∈ fs, valueB f.v = true) ∧ (∀ f ∈ fs.drop 4, nameB f.n = true ∧ barredB f.n = false) := by
  unfold tellP at h
  cases hp : psF [] false fs with
  | none => rw [hp] at h; cases h
  | some m =>
    rw [hp] at h
    obtain ⟨k, h1, h2, h3, h4, h5⟩ := ps_all fs _ _ _ hp
    refine ⟨h4, fun f hf => ?_⟩
    have hk : k ≤ 4 := by
      simp only [reqP, Bool.and_eq_true, decide_eq_true_eq] at h
      have := h.1.2
      rw [h3, List.length_nil] at this
      split at this <;> omega
    have : fs.drop 4 = (fs.drop k).drop (4 - k) := by rw [List.drop_drop]; congr 1; omega
    rw [this] at hf
    exact h5 f (List.mem_of_mem_drop hf)
theorem headF_rest : ∀ (fs : List Fd) (i : Nat), 4 ≤ i → headF i fs = true → ∀ f ∈ fs, f.z = false ∧ ownB f.n = false ∧ allP chT f.v = true
  | [], _, _, _ => by simp
  | f :: fs, i, hi, h => by
    simp only [headF, if_neg (show ¬ i < 4 by omega), Bool.and_eq_true, Bool.not_eq_true'] at h
    intro g hg
    rcases List.mem_cons.1 hg with rfl | hg
    · exact ⟨h.1.1, h.1.2.1, h.1.2.2⟩
    · exact headF_rest fs (i + 1) (by omega) h.2 g hg
theorem plainN_of {n : List UInt8} (h1 : ownB n = false) (h2 : barredB n = false) : plainN n = true := by
  unfold ownB at h1
  unfold barredB at h2
  simp only [Bool.or_eq_false_iff, decide_eq_false_iff_not] at h1 h2
  unfold plainN kHost kConn kUpg kSet
  simp [h1, h2]
theorem nameB_all {n : List UInt8} (h : nameB n = true) : lowS n = n ∧ (∀ x ∈ n, x ≠ 58) ∧ noCR n ∧ n ≠ [] := by
  unfold nameB at h
  simp only [Bool.and_eq_true, Bool.not_eq_true', List.all_eq_true, List.isEmpty_eq_false_iff] at h
  refine ⟨?_, fun x hx => (name_low x (h.2 x hx)).2.1, fun x hx => (name_low x (h.2 x hx)).2.2, h.1.1⟩
  unfold lowS
  conv => rhs; rw [← List.map_id n]
  exact List.map_congr_left fun x hx => (name_low x (h.2 x hx)).1
theorem noCR_append {a b : List UInt8} (ha : noCR a) (hb : noCR b) : noCR (a ++ b) := fun x hx => by
  rcases List.mem_append.1 hx with h | h
  · exact ha x h
  · exact hb x h
theorem noCR_T {v : List UInt8} (h : allP chT v = true) : noCR v := fun x hx => chT_not x (List.all_eq_true.1 (by unfold allP at h; exact h) x hx)

theorem joinS_crlf {xs : List (List UInt8)} (h : xs ≠ []) : joinS xs crlf ++ crlf = textL xs := by
  have key : ∀ r : List (List UInt8), (r.map (crlf ++ ·)).flatten ++ crlf = crlf ++ (r.map (· ++ crlf)).flatten := by
    intro r
    induction r with
    | nil => simp
    | cons x r ih => rw [List.map_cons, List.flatten_cons, List.append_assoc, ih, List.map_cons, List.flatten_cons]; simp
  cases xs with
  | nil => exact absurd rfl h
  | cons x r =>
    unfold joinS textL
    rw [List.append_assoc, key, List.map_cons, List.flatten_cons]
    simp
def linesA (va vc vd code : List UInt8) (rest : List Fd) : List (List UInt8) := linesT va vc vd code ++ rest.map fieldT
theorem textA_L (va vc vd code : List UInt8) (rest : List Fd) : textA va vc vd code rest = textL (linesA va vc vd code rest) ++ crlf := by
  have := joinS_crlf (xs := linesA va vc vd code rest) (by simp [linesA, linesT])
  unfold textA
  rw [← this]
  rfl

theorem ask_good {fs : List Fd} {ss : List St} {e : Int} {T : List UInt8} (h : askF fs ss = (e, T)) (he : e = 0) : ∃ va vc vd rest, fs = fsOf va vc vd rest ∧ T = textL (linesA va vc vd (codeP (setB ss)) rest) ++ crlf ∧ GoodL (linesA va vc vd (codeP (setB ss)) rest) va vc vd (codeP (setB ss)) rest ∧
    (∀ l ∈ linesA va vc vd (codeP (setB ss)) rest, noCR l ∧ l ≠ []) ∧ ss.all okSt = true ∧ vc ≠ [] ∧ allP chG vc = true ∧ tellP reqP fs = true ∧ T.length ≤ 16384 := by
  subst he
  unfold askF at h
  split at h
  · cases h
  rename_i hreq
  split at h
  · cases h
  rename_i hhd
  split at h
  · cases h
  rename_i hok
  split at h
  · cases h
  split at h
  · cases h
  rename_i hlen
  have hreq : tellP reqP fs = true := by simpa using hreq
  have hok : ss.all okSt = true := by simpa using hok
  simp only [not_or, Bool.not_eq_false] at hhd
  obtain ⟨hhF, hhO⟩ := hhd
  obtain ⟨va, vb, vc, vd, hvs⟩ := headOk_vs (by unfold headVs; rw [List.length_map, List.length_take]; omega) hhO
  rw [hvs] at h hlen hhO
  simp only [List.getD_cons_zero, List.getD_cons_succ] at h hlen
  have hT : T = textA va vc vd (codeP (setB ss)) (fs.drop 4) := by cases h; rfl
  rw [← hT] at hlen
  clear h
  obtain ⟨hval, hnm⟩ := req_all hreq
  match fs, hvs with
  | f0 :: f1 :: f2 :: f3 :: rest, hvs =>
    have hvs : [f0.v, f1.v, f2.v, f3.v] = [va, vb, vc, vd] := hvs
    simp only [List.cons.injEq, and_true] at hvs
    obtain ⟨rfl, rfl, rfl, rfl⟩ := hvs
    simp only [headF, Bool.and_eq_true, Bool.not_eq_true'] at hhF
    simp only [show (0 : Nat) < 4 by decide, show 0 + 1 < 4 by decide, show 0 + 1 + 1 < 4 by decide, show 0 + 1 + 1 + 1 < 4 by decide, if_true, decide_eq_true_eq] at hhF
    obtain ⟨⟨z0, n0⟩, ⟨z1, n1⟩, ⟨z2, n2⟩, ⟨z3, n3⟩, hhR⟩ := hhF
    have hR := headF_rest rest _ (by decide) hhR
    simp only [headOk, List.getElem?_cons_zero, List.getElem?_cons_succ, Option.getD_some, Bool.and_eq_true, Bool.not_eq_true', decide_eq_true_eq, decide_eq_false_iff_not] at hhO
    obtain ⟨⟨⟨⟨hb, hc0⟩, hcG⟩, hm⟩, hp⟩ := hhO
    have hfs : f0 :: f1 :: f2 :: f3 :: rest = fsOf f0.v f2.v f3.v rest := by
      obtain ⟨a0, b0, c0⟩ := f0
      obtain ⟨a1, b1, c1⟩ := f1
      obtain ⟨a2, b2, c2⟩ := f2
      obtain ⟨a3, b3, c3⟩ := f3
      simp only at z0 z1 z2 z3 n0 n1 n2 n3 hb
      subst z0 z1 z2 z3 n0 n1 n2 n3 hb
      rfl
    have hdr : (f0 :: f1 :: f2 :: f3 :: rest).drop 4 = rest := rfl
    rw [hdr] at hT hnm
    rw [textA_L] at hT
    have hcode := code_G (setB ss)
    have hmU : ∀ x ∈ f0.v, chU (x.toNat : Int) = true := fun x hx => by
      unfold methodB allP at hm
      simp only [Bool.and_eq_true] at hm
      exact List.all_eq_true.1 hm.2 x hx
    have hm0 : f0.v ≠ [] := by
      unfold methodB at hm
      simp only [Bool.and_eq_true, Bool.not_eq_true', decide_eq_false_iff_not] at hm
      exact hm.1.1
    have hpG : ∀ x ∈ f3.v, chG (x.toNat : Int) = true := fun x hx => by
      unfold pathB allP at hp
      simp only [Bool.and_eq_true] at hp
      exact List.all_eq_true.1 hp.2 x hx
    have hcA : ∀ x ∈ f2.v, chG (x.toNat : Int) = true := fun x hx => List.all_eq_true.1 (by unfold allP at hcG; exact hcG) x hx
    have hcA' : ∀ x ∈ codeP (setB ss), chG (x.toNat : Int) = true := fun x hx => List.all_eq_true.1 (by unfold allP at hcode; exact hcode) x hx
    have crG : ∀ v : List UInt8, (∀ x ∈ v, chG (x.toNat : Int) = true) → noCR v := fun v hv x hx => (chG_not x (hv x hx)).2.1
    have lit : ∀ v : List UInt8, (v.all fun x => !(x == 13)) = true → noCR v := fun v hv x hx h13 => by
      have := List.all_eq_true.1 hv x hx
      subst h13; simp at this
    have hgood : ∀ l ∈ linesA f0.v f2.v f3.v (codeP (setB ss)) rest, noCR l ∧ l ≠ [] := by
      intro l hl
      unfold linesA at hl
      rcases List.mem_append.1 hl with hl | hl
      · simp only [linesT, List.mem_cons, List.not_mem_nil, or_false] at hl
        rcases hl with rfl | rfl | rfl | rfl | rfl
        · exact ⟨noCR_append (noCR_append (noCR_append (fun x hx => (chU_not x (hmU x hx)).2) (lit _ (by decide))) (crG _ hpG)) (lit _ (by decide)), by simp⟩
        · exact ⟨noCR_append (lit _ (by decide)) (crG _ hcA), by simp⟩
        · exact ⟨lit _ (by decide), by simp⟩
        · exact ⟨lit _ (by decide), by simp⟩
        · exact ⟨noCR_append (lit _ (by decide)) (crG _ hcA'), by simp⟩
      · obtain ⟨f, hf, rfl⟩ := List.mem_map.1 hl
        have h1 := nameB_all (hnm f hf).1
        exact ⟨noCR_append (noCR_append h1.2.2.1 (lit _ (by decide))) (noCR_T (hR f hf).2.2), by simp [fieldT]⟩
    have hLl : (linesA f0.v f2.v f3.v (codeP (setB ss)) rest).length = 5 + rest.length := by unfold linesA linesT; rw [List.length_append, List.length_map]; rfl
    have hsum : usedAt (linesA f0.v f2.v f3.v (codeP (setB ss)) rest ++ [[]]) ((linesA f0.v f2.v f3.v (codeP (setB ss)) rest).length + 1) = T.length := by
      have := usedAt_text (linesA f0.v f2.v f3.v (codeP (setB ss)) rest ++ [[]])
      rw [textL_append, List.length_append (bs := [[]]), List.length_singleton] at this
      rw [this, hT]
      rfl
    have hone : ∀ (i : Nat) l, (linesA f0.v f2.v f3.v (codeP (setB ss)) rest)[i]? = some l → l.length ≤ 16384 := fun i l hl => by
      have hl' : (linesA f0.v f2.v f3.v (codeP (setB ss)) rest ++ [[]])[i]? = some l := by rw [List.getElem?_append_left (List.getElem?_eq_some_iff.1 hl).1]; exact hl
      have h1 := usedAt_succ hl'
      have h2 := usedAt_le (linesA f0.v f2.v f3.v (codeP (setB ss)) rest ++ [[]]) (i + 1)
      rw [List.length_append, List.length_singleton, hsum] at h2
      omega
    have hat : ∀ i : Nat, i < 5 → (linesA f0.v f2.v f3.v (codeP (setB ss)) rest)[i]? = (linesT f0.v f2.v f3.v (codeP (setB ss)))[i]? := fun i hi => by
      unfold linesA; exact List.getElem?_append_left hi
    have hcl : (codeP (setB ss)).length ≤ 16384 := by
      have := hone 4 _ (hat 4 (by decide))
      rw [List.length_append] at this; omega
    have hvl : f2.v.length ≤ 16384 := by
      have := hone 1 _ (hat 1 (by decide))
      rw [List.length_append] at this; omega
    have hvB : valueB f2.v = true := hval f2 (by simp)
    have hcB : valueB (codeP (setB ss)) = true := G_value (by omega) hcode
    refine ⟨f0.v, f2.v, f3.v, rest, hfs, hT, ⟨hLl, fun i l hl => (hgood l (List.mem_of_getElem? hl)).2, ?_, ?_, ?_, by rw [hsum]; omega, hcl, hvl⟩, hgood, hok, hc0, hcG, hreq, by omega⟩
    · intro l hl
      rw [hat 0 (by decide)] at hl
      cases hl
      have e1 : cutA (f0.v ++ [32] ++ f3.v ++ [32, 72, 84, 84, 80, 47, 49, 46, 49]) [32] = (f0.v, f3.v ++ 32 :: http11, true) := by
        rw [show f0.v ++ [32] ++ f3.v ++ [32, 72, 84, 84, 80, 47, 49, 46, 49] = f0.v ++ 32 :: (f3.v ++ 32 :: http11) by simp [http11]]
        exact cutA_one fun x hx => (chU_not x (hmU x hx)).1
      have e2 : cutA (f3.v ++ 32 :: http11) [32] = (f3.v, http11, true) := cutA_one fun x hx => (chG_not x (hpG x hx)).1
      unfold firB firM firP
      rw [e1]
      simp only
      rw [e2]
      refine ⟨trivial, rfl, ?_⟩
      rw [hm, hp]; simp
    · intro i l q hl hq
      have hi : i < 4 := (List.getElem?_eq_some_iff.1 hq).1
      rw [hat (i + 1) (by omega)] at hl
      have k58 : ∀ k : List UInt8, (k.all fun x => !(x == 58)) = true → ∀ x ∈ k, x ≠ 58 := fun k hk x hx h58 => by
        have := List.all_eq_true.1 hk x hx
        subst h58; simp at this
      match i, hi with
      | 0, _ =>
        cases hl; cases hq
        exact linB_of (k := [72, 111, 115, 116]) (v := f2.v) (k58 _ (by decide)) (value_head hvB) (by decide) hvB (G_T hcG)
      | 1, _ =>
        cases hl; cases hq
        exact linB_of (k := [67, 111, 110, 110, 101, 99, 116, 105, 111, 110]) (v := howT) (k58 _ (by decide)) (value_head (by decide)) (by decide) (by decide) (by decide)
      | 2, _ =>
        cases hl; cases hq
        exact linB_of (k := [85, 112, 103, 114, 97, 100, 101]) (v := h2cT) (k58 _ (by decide)) (value_head (by decide)) (by decide) (by decide) (by decide)
      | 3, _ =>
        cases hl; cases hq
        exact linB_of (k := [72, 84, 84, 80, 50, 45, 83, 101, 116, 116, 105, 110, 103, 115]) (v := codeP (setB ss)) (k58 _ (by decide)) (value_head hcB) (by decide) hcB (G_T hcode)
    · intro i l f hl hf
      have hl' : (rest.map fieldT)[i]? = some l := by
        unfold linesA at hl
        rw [List.getElem?_append_right (by show 5 ≤ i + 5; omega)] at hl
        have : i + 5 - (linesT f0.v f2.v f3.v (codeP (setB ss))).length = i := by show i + 5 - 5 = i; omega
        rw [this] at hl
        exact hl
      rw [List.getElem?_map, hf] at hl'
      cases hl'
      have hmem := List.mem_of_getElem? hf
      obtain ⟨h1, h2⟩ := hnm f hmem
      obtain ⟨h3, h4, h5⟩ := hR f hmem
      obtain ⟨h6, h7, h8, h9⟩ := nameB_all h1
      have hv := hval f (by simp [hmem])
      obtain ⟨g1, g2, g3⟩ := linB_of (k := f.n) (v := f.v) h7 (value_head hv) (by rw [h6]; exact h1) hv h5
      exact ⟨g1, by rw [← h6]; exact g2, g3, h3, plainN_of h4 h2⟩

end Am
