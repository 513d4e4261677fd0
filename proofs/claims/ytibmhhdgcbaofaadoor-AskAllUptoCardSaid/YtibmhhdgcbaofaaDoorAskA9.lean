/- Asking for an upgrade: what the program writes is what the document writes. -/
import Derived.Test.YtibmhhdgcbaofaaDoorAskA8
namespace Am
set_option linter.unusedVariables false
set_option linter.unusedSimpArgs false
set_option maxRecDepth 20000
set_option maxHeartbeats 4000000

theorem ps_struct : ∀ (fs : List Fd) (m0 : PM) (reg : Bool) (m : PM), psF m0 reg fs = some m → ∃ k, k ≤ fs.length ∧ (reg = true → k = 0) ∧ m = m0 ++ (fs.take k).map (fun f => (f.n, f.v)) ∧ (∀ f ∈ fs.take k, preB f.n = true) ∧ (∀ f ∈ fs.drop k, preB f.n = false ∧ nameB f.n = true)
  | [], m0, reg, m, h => by cases h; exact ⟨0, Nat.le_refl _, fun _ => rfl, by simp, by simp, by simp⟩
  | f :: fs, m0, reg, m, h => by
    simp only [psF] at h
    split at h
    · cases h
    split at h
    · rename_i hp
      split at h
      · cases h
      · rename_i hl
        obtain ⟨k, h1, h2, h3, h4, h5⟩ := ps_struct fs _ _ _ h
        refine ⟨k + 1, by simp; omega, fun hr => ?_, by rw [h3]; simp, fun g hg => ?_, fun g hg => h5 g (by simpa using hg)⟩
        · rw [hr] at hl; simp at hl
        · rw [List.take_succ_cons] at hg
          rcases List.mem_cons.1 hg with rfl | hg
          · exact hp
          · exact h4 g hg
    · rename_i hp
      split at h
      · cases h
      rename_i hn
      split at h
      · cases h
      split at h
      · cases h
      obtain ⟨k, h1, h2, h3, h4, h5⟩ := ps_struct fs _ _ _ h
      have hk := h2 rfl
      subst hk
      refine ⟨0, Nat.zero_le _, fun _ => rfl, by rw [h3]; simp, by simp, fun g hg => ?_⟩
      rw [List.drop_zero] at hg h5
      rcases List.mem_cons.1 hg with rfl | hg
      · exact ⟨by simpa using hp, by simpa using hn⟩
      · exact h5 g hg
theorem preB_head {l : List UInt8} (h : preB l = true) : l[0]? = some 58 := by
  unfold preB at h
  simp only [decide_eq_true_eq] at h
  match l, h with
  | [], h => simp at h
  | x :: r, h => simp at h; simp [h]
theorem preB_ne {l : List UInt8} (h : preB l = false) : ¬ l[0]? = some 58 := by
  intro hx
  match l, hx with
  | x :: r, hx =>
    simp at hx
    subst hx
    simp [preB] at h
theorem nameB_ne {l : List UInt8} (h : nameB l = true) : l ≠ [] := by
  intro hx; subst hx; simp [nameB] at h
/-- All names are there. -/
theorem req_names {fs : List Fd} (h : tellP reqP fs = true) : ∀ f ∈ fs, f.n ≠ [] := by
  unfold tellP at h
  cases hp : psF [] false fs with
  | none => rw [hp] at h; cases h
  | some m =>
    obtain ⟨k, h1, h2, h3, h4, h5⟩ := ps_struct fs _ _ _ hp
    intro f hf
    rw [← List.take_append_drop k fs] at hf
    rcases List.mem_append.1 hf with hf | hf
    · intro hx
      have := preB_head (h4 f hf)
      rw [hx] at this; simp at this
    · exact nameB_ne (h5 f hf).2

def fullT (rs : List Fd) : List UInt8 := (rs.map lineT).flatten
def moreT : List UInt8 → List Fd → List UInt8
  | m, [] => m
  | m, f :: fs => moreT (if m.length ≤ 16384 then m ++ lineT f else m) fs
theorem moreT_or : ∀ (rs : List Fd) (m : List UInt8), moreT m rs = m ++ fullT rs ∨ (16384 < (moreT m rs).length ∧ (moreT m rs).length ≤ (m ++ fullT rs).length)
  | [], m => .inl (by simp [moreT, fullT])
  | f :: fs, m => by
    have hf : fullT (f :: fs) = lineT f ++ fullT fs := rfl
    rw [moreT, hf]
    by_cases h : m.length ≤ 16384
    · rw [if_pos h, ← List.append_assoc]
      exact moreT_or fs (m ++ lineT f)
    · rw [if_neg h]
      rcases moreT_or fs m with h1 | ⟨h1, h2⟩
      · right
        rw [h1]
        simp only [List.length_append]
        omega
      · right
        simp only [List.length_append] at h2 ⊢
        omega
theorem moreF_rest : ∀ (rs : List Fd) (i : Nat) (m : List UInt8), 4 ≤ i → (∀ f ∈ rs, preB f.n = false) → moreF i m rs = if headF i rs = true then some (moreT m rs) else none
  | [], i, m, hi, hp => by simp [moreF, headF, moreT]
  | f :: fs, i, m, hi, hp => by
    have hpf := preB_ne (hp f (List.mem_cons_self ..))
    have ih := moreF_rest fs (i + 1) (if m.length ≤ 16384 then m ++ lineT f else m) (by omega) fun g hg => hp g (List.mem_cons_of_mem _ hg)
    have hb : badF i f = f.z := by
      unfold badF
      rw [decide_eq_false (show ¬ i = 0 by omega), decide_eq_false (show ¬ i = 1 by omega), decide_eq_false (show ¬ i = 2 by omega)]
      simp
    rw [moreF, headF, moreT, hb, if_neg hpf, ih, if_neg (show ¬ i < 4 by omega)]
    cases f.z <;> cases ownB f.n <;> cases allP chT f.v <;> simp
theorem joinS_end {xs : List (List UInt8)} (sep : List UInt8) (h : xs ≠ []) : joinS xs sep ++ sep = (xs.map (· ++ sep)).flatten := by
  have key : ∀ r : List (List UInt8), (r.map (sep ++ ·)).flatten ++ sep = sep ++ (r.map (· ++ sep)).flatten := by
    intro r
    induction r with
    | nil => simp
    | cons x r ih => rw [List.map_cons, List.flatten_cons, List.append_assoc, ih, List.map_cons, List.flatten_cons]; simp
  cases xs with
  | nil => exact absurd rfl h
  | cons x r =>
    unfold joinS
    rw [List.append_assoc, key, List.map_cons, List.flatten_cons]
    simp
theorem text_same (a c d code : List UInt8) (rs : List Fd) : textA a c d code rs = textG a d c code (fullT rs) := by
  unfold textA
  rw [joinS_end _ (by simp [linesT]), List.map_append, List.flatten_append]
  have h1 : ((rs.map fieldT).map (· ++ [13, 10])).flatten = fullT rs := by
    unfold fullT
    rw [List.map_map]
    rfl
  rw [h1]
  simp [linesT, textG]
theorem codeP_ge (l : List UInt8) : l.length ≤ (codeP l).length := by
  have key : ∀ i, i ≤ l.length → i ≤ (Enc.of (l.take i)).out.length := by
    intro i
    induction i with
    | zero => intro _; exact Nat.zero_le _
    | succ i ih =>
      intro hi
      have h1 := ih (by omega)
      rw [Enc.of_take (by omega)]
      generalize Enc.of (l.take i) = s at h1
      unfold Enc.step
      split
      · simp; omega
      · split <;> simp <;> omega
  have h := key l.length (Nat.le_refl _)
  rw [List.take_length] at h
  unfold codeP Enc.fin
  split
  · omega
  · split <;> simp <;> omega

/-- The four heads in front, the other fields behind them. -/
def Four (fs : List Fd) : Prop := ∃ f0 f1 f2 f3 rs, fs = f0 :: f1 :: f2 :: f3 :: rs ∧ f0.n = nM ∧ f1.n = nS ∧ f2.n = nA ∧ f3.n = nP ∧ f0.z = false ∧ f1.z = false ∧ f2.z = false ∧ f3.z = false ∧ ∀ f ∈ rs, preB f.n = false

theorem badF0 {f : Fd} (h : ¬ badF 0 f = true) : f.z = false ∧ f.n = nM := by simpa [badF] using h
theorem badF1 {f : Fd} (h : ¬ badF (0 + 1) f = true) : f.z = false ∧ f.n = nS := by simpa [badF] using h
theorem badF2 {f : Fd} (h : ¬ badF (0 + 1 + 1) f = true) : f.z = false ∧ f.n = nA := by simpa [badF] using h
theorem badF3 {f : Fd} (h : ¬ badF (0 + 1 + 1 + 1) f = true) : f.z = false := by simpa [badF] using h

theorem ask_same (fs : List Fd) (ss : List St) : askF fs ss = askG fs ss := by
  cases hreq : tellP reqP fs with
  | false =>
    unfold askF askG condG
    rw [if_pos hreq, hreq]; rfl
  | true =>
    have hreq0 := hreq
    unfold tellP at hreq
    cases hp : psF [] false fs with
    | none => rw [hp] at hreq; cases hreq
    | some m =>
    rw [hp] at hreq
    simp only at hreq
    obtain ⟨k, h1, _, h3, h4, h5⟩ := ps_struct fs _ _ _ hp
    rw [List.nil_append] at h3
    have hlook := fun key (hk : preB key = true) => psF_look key hk fs [] false m hp
    simp only [look, Option.isSome_none, Bool.false_eq_true, if_false] at hlook
    unfold reqP at hreq
    simp only [Bool.and_eq_true, Bool.not_eq_true', decide_eq_false_iff_not, decide_eq_true_eq, Bool.or_eq_true] at hreq
    obtain ⟨⟨⟨hqM, hqS⟩, hqL⟩, hqP⟩ := hreq
    have hmk : m.length = k := by rw [h3, List.length_map, List.length_take]; omega
    by_cases hF : Four fs
    · obtain ⟨f0, f1, f2, f3, rs, rfl, n0, n1, n2, n3, z0, z1, z2, z3, hrs⟩ := hF
      have oM : ofF nM (f0 :: f1 :: f2 :: f3 :: rs) = f0.v := by simp [ofF, n0]
      have oS : ofF nS (f0 :: f1 :: f2 :: f3 :: rs) = f1.v := by simp [ofF, n0, n1, nM, nS]
      have oA : ofF nA (f0 :: f1 :: f2 :: f3 :: rs) = f2.v := by simp [ofF, n0, n1, n2, nM, nS, nA]
      have oP : ofF nP (f0 :: f1 :: f2 :: f3 :: rs) = f3.v := by simp [ofF, n0, n1, n2, n3, nM, nS, nA, nP]
      have hvs : headVs (f0 :: f1 :: f2 :: f3 :: rs) = [f0.v, f1.v, f2.v, f3.v] := rfl
      have hh : headF 0 (f0 :: f1 :: f2 :: f3 :: rs) = headF 4 rs := by simp [headF, z0, z1, z2, z3, n0, n1, n2, n3, namesL]
      have hm : moreF 0 [] (f0 :: f1 :: f2 :: f3 :: rs) = moreF 4 [] rs := by
        have b0 : badF 0 f0 = false := by simp [badF, z0, n0]
        have b1 : badF 1 f1 = false := by simp [badF, z1, n1]
        have b2 : badF 2 f2 = false := by simp [badF, z2, n2]
        have b3 : badF 3 f3 = false := by simp [badF, z3]
        rw [moreF, b0, if_neg (by decide), if_pos (by rw [n0]; rfl), moreF, b1, if_neg (by decide), if_pos (by rw [n1]; rfl), moreF, b2, if_neg (by decide), if_pos (by rw [n2]; rfl), moreF, b3, if_neg (by decide), if_pos (by rw [n3]; rfl)]
      have hpath : (preSl f3.v || decide (f3.v = [42])) = true := by
        have e1 : getS m kPath = f3.v := (hlook kPath rfl).trans oP
        rw [e1] at hqP
        simpa using hqP
      have hc : condG (f0 :: f1 :: f2 :: f3 :: rs) = headOk [f0.v, f1.v, f2.v, f3.v] := by
        unfold condG headOk pathB
        rw [hreq0, oM, oS, oA, oP]
        simp only [List.getElem?_cons_zero, List.getElem?_cons_succ, Option.getD_some, Bool.true_and]
        rw [hpath]
        cases decide (f1.v = [104, 116, 116, 112]) <;> cases decide (f2.v = []) <;> cases allP chG f2.v <;> cases methodB f0.v <;> cases allP chG f3.v <;> rfl
      rw [moreF_rest rs 4 [] (Nat.le_refl _) hrs] at hm
      unfold askF askG
      rw [if_neg (by rw [hreq0]; simp), hc, hh, hm, hvs, oM, oA, oP]
      cases hok : headOk [f0.v, f1.v, f2.v, f3.v] with
      | false => rw [if_pos (.inr rfl), if_pos rfl]
      | true =>
        cases hh4 : headF 4 rs with
        | false => simp
        | true =>
          simp only [Bool.true_eq_false, or_self, if_false, if_true]
          have e0 : [f0.v, f1.v, f2.v, f3.v].getD 0 [] = f0.v := rfl
          have e2 : [f0.v, f1.v, f2.v, f3.v].getD 2 [] = f2.v := rfl
          have e3 : [f0.v, f1.v, f2.v, f3.v].getD 3 [] = f3.v := rfl
          have hdr : (f0 :: f1 :: f2 :: f3 :: rs).drop 4 = rs := rfl
          rw [e0, e2, e3, hdr, text_same]
          by_cases ho : ss.all okSt = false
          · rw [if_pos ho, if_pos ho]
          · rw [if_neg ho, if_neg ho]
            have hge := codeP_ge (setB ss)
            rw [setB_len] at hge
            have hlen : ∀ more, (textG f0.v f3.v f2.v (codeP (setB ss)) more).length = (textG f0.v f3.v f2.v (codeP (setB ss)) []).length + more.length := by
              intro more; simp [textG]; omega
            have hlen0 : (codeP (setB ss)).length ≤ (textG f0.v f3.v f2.v (codeP (setB ss)) []).length := by simp [textG]; omega
            have hful := hlen (fullT rs)
            by_cases h16 : 16777215 < 6 * ss.length
            · rw [if_pos h16, if_pos (show 16777215 < 6 * ss.length ∨ 16384 < 6 * ss.length from .inl h16)]
            · rw [if_neg h16]
              by_cases h6 : 16384 < 6 * ss.length
              · rw [if_pos (show 16384 < (textG f0.v f3.v f2.v (codeP (setB ss)) (fullT rs)).length by omega), if_pos (show 16777215 < 6 * ss.length ∨ 16384 < 6 * ss.length from .inr h6)]
              · rw [if_neg (show ¬ (16777215 < 6 * ss.length ∨ 16384 < 6 * ss.length) by omega)]
                rcases moreT_or rs [] with hm | ⟨hm1, hm2⟩
                · rw [hm, List.nil_append]
                · rw [List.nil_append] at hm2
                  have hmt := hlen (moreT [] rs)
                  rw [if_pos (show 16384 < (textG f0.v f3.v f2.v (codeP (setB ss)) (fullT rs)).length by omega), if_pos (show 16384 < (textG f0.v f3.v f2.v (codeP (setB ss)) (moreT [] rs)).length by omega)]
    · have hno1 : ¬ (headF 0 fs = true ∧ headOk (headVs fs) = true) := by
        rintro ⟨hh, hok⟩
        have hvl : (headVs fs).length = min fs.length 4 := by unfold headVs; rw [List.length_map, List.length_take]; omega
        obtain ⟨va, vb, vc, vd, hvs⟩ := headOk_vs (by omega) hok
        have hl4 : 4 ≤ fs.length := by rw [hvs] at hvl; simp at hvl; omega
        match fs, hl4 with
        | f0 :: f1 :: f2 :: f3 :: rs, _ =>
          simp only [headF, show (0 : Nat) < 4 by decide, show (0 + 1 : Nat) < 4 by decide, show (0 + 1 + 1 : Nat) < 4 by decide, show (0 + 1 + 1 + 1 : Nat) < 4 by decide, if_true, Bool.and_eq_true, Bool.not_eq_true', decide_eq_true_eq] at hh
          obtain ⟨⟨z0, n0⟩, ⟨z1, n1⟩, ⟨z2, n2⟩, ⟨z3, n3⟩, _⟩ := hh
          have hk4 : k = 4 := by
            have h3k : 3 < k := by
              rcases Nat.lt_or_ge 3 k with h | h
              · exact h
              · have hk : k = 0 ∨ k = 1 ∨ k = 2 ∨ k = 3 := by omega
                have := (h5 f3 (by rcases hk with rfl | rfl | rfl | rfl <;> simp)).1
                rw [n3] at this; cases this
            have : m.length ≤ 4 := by rw [hqL]; split <;> omega
            omega
          subst hk4
          exact hF ⟨f0, f1, f2, f3, rs, rfl, n0, n1, n2, n3, z0, z1, z2, z3, fun f hf => (h5 f hf).1⟩
      have hno2 : condG fs = true → moreF 0 [] fs = none := by
        intro hc
        cases hm : moreF 0 [] fs with
        | none => rfl
        | some more =>
          exfalso
          unfold condG at hc
          simp only [Bool.and_eq_true, Bool.not_eq_true', decide_eq_false_iff_not] at hc
          have hA : (look m kAuth).isSome = true := getS_ne (by rw [hlook kAuth rfl]; exact hc.1.1.1.2)
          rw [hA] at hqL
          simp only [if_true] at hqL
          have hk4 : k = 4 := by omega
          subst hk4
          match fs, h1 with
          | f0 :: f1 :: f2 :: f3 :: rs, _ =>
            have p3 := h4 f3 (by simp)
            rw [moreF] at hm
            split at hm
            · cases hm
            rename_i b0
            obtain ⟨z0, n0⟩ := badF0 b0
            rw [if_pos (by rw [n0]; rfl), moreF] at hm
            split at hm
            · cases hm
            rename_i b1
            obtain ⟨z1, n1⟩ := badF1 b1
            rw [if_pos (by rw [n1]; rfl), moreF] at hm
            split at hm
            · cases hm
            rename_i b2
            obtain ⟨z2, n2⟩ := badF2 b2
            rw [if_pos (by rw [n2]; rfl), moreF] at hm
            split at hm
            · cases hm
            rename_i b3
            have z3 := badF3 b3
            have hP : (look m kPath).isSome = true := getS_ne (by
              intro hx
              rw [hx] at hqP
              rcases hqP with h | h
              · simp [preSl] at h
              · cases h)
            have hin := (look_mem kPath m).1 hP
            rw [h3] at hin
            simp only [List.take_succ_cons, List.take_zero, List.map_cons, List.map_nil, List.mem_cons, List.not_mem_nil, or_false] at hin
            have n3 : f3.n = nP := by
              rcases hin with h | h | h | h
              · rw [n0] at h; cases h
              · rw [n1] at h; cases h
              · rw [n2] at h; cases h
              · exact h.symm
            exact hF ⟨f0, f1, f2, f3, rs, rfl, n0, n1, n2, n3, z0, z1, z2, z3, fun f hf => (h5 f hf).1⟩
      have e1 : askF fs ss = (5, []) := by
        unfold askF
        rw [if_neg (by rw [hreq0]; simp), if_pos]
        cases ha : headF 0 fs with
        | false => exact .inl rfl
        | true =>
          cases hb : headOk (headVs fs) with
          | false => exact .inr rfl
          | true => exact absurd ⟨ha, hb⟩ hno1
      have e2 : askG fs ss = (5, []) := by
        unfold askG
        cases hc : condG fs with
        | false => rw [if_pos rfl]
        | true => rw [if_neg (by simp), hno2 hc]
      rw [e1, e2]

end Am
