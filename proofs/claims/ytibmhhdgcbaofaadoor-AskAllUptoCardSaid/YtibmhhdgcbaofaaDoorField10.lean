/- Two ways to read a list of fields: what the layer's map holds, and what the document counts. No program in sight. -/
import Derived.Test.YtibmhhdgcbaofaaDoorField9
namespace Am
set_option linter.unusedVariables false
set_option linter.unusedSimpArgs false
set_option maxRecDepth 20000
set_option maxHeartbeats 8000000

theorem idxF_spec (s : List UInt8) : ∀ (ps : List (List UInt8)) (acc j : Int), (idxF s acc j ps = acc ∧ s ∉ ps) ∨ ∃ k : Nat, k < ps.length ∧ idxF s acc j ps = j + k ∧ ps[k]? = some s
  | [], acc, j => .inl ⟨rfl, by simp⟩
  | p :: ps, acc, j => by
    simp only [idxF]
    rcases idxF_spec s ps (if p = s then j else acc) (j + 1) with ⟨h1, h2⟩ | ⟨k, h1, h2, h3⟩
    · by_cases hp : p = s
      · rw [if_pos hp] at h1 ⊢
        exact .inr ⟨0, by simp, by rw [h1]; simp, by simp [hp]⟩
      · rw [if_neg hp] at h1 ⊢
        exact .inl ⟨h1, by simp [h2]; exact fun h => hp h.symm⟩
    · exact .inr ⟨k + 1, by simp; omega, by rw [h2]; omega, by simpa using h3⟩

theorem look_app (k v k' : List UInt8) : ∀ m : PM, look (m ++ [(k, v)]) k' = if (look m k').isSome then look m k' else if k' = k then some v else none
  | [] => by simp [look]
  | p :: ps => by
    simp only [List.cons_append, look]
    by_cases h : k' = p.1
    · simp [h]
    · simp only [h, if_false]; exact look_app k v k' ps
theorem look_mem (k : List UInt8) : ∀ m : PM, (look m k).isSome = true ↔ k ∈ m.map (·.1)
  | [] => by simp [look]
  | p :: ps => by
    simp only [look, List.map_cons, List.mem_cons]
    by_cases h : k = p.1
    · simp [h]
    · simp only [h, if_false, false_or]; exact look_mem k ps

theorem psF_nodup : ∀ (fs : List Fd) (m : PM) (reg : Bool) (m' : PM), (m.map (·.1)).Nodup → psF m reg fs = some m' → (m'.map (·.1)).Nodup
  | [], m, reg, m', hn, h => by cases h; exact hn
  | f :: fs, m, reg, m', hn, h => by
    simp only [psF] at h
    split at h
    · cases h
    split at h
    · split at h
      · cases h
      · rename_i hl
        refine psF_nodup fs _ _ _ ?_ h
        have hk : f.n ∉ m.map (·.1) := fun hc => hl (by rw [(look_mem f.n m).2 hc]; rfl)
        rw [List.map_append, List.nodup_append]
        refine ⟨hn, by simp, ?_⟩
        intro a ha b hb he
        simp at hb
        subst he; subst hb
        exact hk ha
    · split at h
      · cases h
      split at h
      · cases h
      split at h
      · cases h
      exact psF_nodup fs _ _ _ hn h

theorem psF_look (k : List UInt8) (hk : preB k = true) : ∀ (fs : List Fd) (m : PM) (reg : Bool) (m' : PM), psF m reg fs = some m' → getS m' k = if (look m k).isSome then getS m k else ofF k fs
  | [], m, reg, m', h => by
    cases h
    simp only [ofF]
    split
    · rfl
    · rename_i h; simp at h; simp [getS, h]
  | f :: fs, m, reg, m', h => by
    simp only [psF] at h
    split at h
    · cases h
    split at h
    · split at h
      · cases h
      · rename_i hl
        have ih := psF_look k hk fs _ _ _ h
        rw [ih, look_app]
        by_cases h1 : (look m k).isSome = true
        · simp [h1, getS, look_app]
        · simp only [h1, ofF]
          by_cases h2 : k = f.n
          · subst h2; simp at h1; simp [getS, look_app, h1]
          · have h2' : ¬ f.n = k := fun e => h2 e.symm
            simp [h2, h2']
    · rename_i hp
      split at h
      · cases h
      split at h
      · cases h
      split at h
      · cases h
      have hne : ¬ f.n = k := fun e => by rw [e] at hp; exact hp hk
      rw [psF_look k hk fs _ _ _ h]
      simp only [ofF, hne, if_false]

theorem psF_sub : ∀ (fs : List Fd) (m : PM) (reg : Bool) (m' : PM), psF m reg fs = some m' → ∀ p, p ∈ m → p ∈ m'
  | [], m, reg, m', h => by cases h; exact fun _ h => h
  | f :: fs, m, reg, m', h => by
    simp only [psF] at h
    split at h
    · cases h
    split at h
    · split at h
      · cases h
      · exact fun p hp => psF_sub fs _ _ _ h p (by simp [hp])
    · split at h
      · cases h
      split at h
      · cases h
      split at h
      · cases h
      exact psF_sub fs _ _ _ h

/-- A name that begins with a colon is none. -/
theorem pre_plain {f : Fd} (h : preB f.n = true) : plainB f = false := by
  have hn : nameB f.n = false := by
    simp only [preB, decide_eq_true_eq] at h
    obtain ⟨h1, h2⟩ := h
    match hf : f.n with
    | [] => rfl
    | c :: cs =>
      rw [hf] at h2
      simp at h2
      subst h2
      simp only [nameB, List.all_cons, show nameCh 58 = false by decide, Bool.false_and, Bool.and_false]
  simp [plainB, hn]

theorem ls_ps {ps : List (List UInt8)} (hpre : ∀ p ∈ ps, preB p = true) (hnd : ps.Nodup) : ∀ (fs : List Fd) (m : PM) (reg : Bool), (∀ p ∈ m, p.1 ∈ ps) →
    (∃ m', lsF ps (ps.map fun p => (look m p).isSome) reg fs = some (ps.map fun p => (look m' p).isSome) ∧ psF m reg fs = some m' ∧ ∀ p ∈ m', p.1 ∈ ps) ∨
    (lsF ps (ps.map fun p => (look m p).isSome) reg fs = none ∧ (psF m reg fs = none ∨ ∃ m', psF m reg fs = some m' ∧ ∃ p ∈ m', p.1 ∉ ps))
  | [], m, reg, hm => .inl ⟨m, rfl, rfl, hm⟩
  | f :: fs, m, reg, hm => by
    simp only [lsF, psF]
    by_cases b1 : valueB f.v = false
    · simp [b1]
    simp only [if_neg b1]
    rcases idxF_spec f.n ps (-1) 0 with ⟨h1, h2⟩ | ⟨k, h1, h2, h3⟩
    · rw [h1]
      simp only [show ¬ (0 : Int) ≤ -1 by omega, if_false]
      by_cases b2 : preB f.n = true
      · simp only [b2, if_true, pre_plain b2]
        refine .inr ⟨by simp, ?_⟩
        split
        · exact .inl rfl
        · cases hps : psF (m ++ [(f.n, f.v)]) reg fs with
          | none => exact .inl rfl
          | some m' => exact .inr ⟨m', rfl, (f.n, f.v), psF_sub fs _ _ _ hps _ (by simp), h2⟩
      · simp only [b2, if_false]
        by_cases b3 : plainB f = true
        · have b3' := b3
          simp only [plainB, Bool.and_eq_true, Bool.not_eq_true'] at b3'
          obtain ⟨⟨c1, c2⟩, c3⟩ := b3'
          simp only [b3, c1, c2, c3, if_true]
          simpa using ls_ps hpre hnd fs m true hm
        · refine .inr ⟨by simp [b3], .inl ?_⟩
          simp only [plainB, Bool.and_eq_true, Bool.not_eq_true'] at b3
          by_cases c1 : nameB f.n = true
          · by_cases c2 : barredB f.n = true
            · simp [c1, c2]
            · by_cases c3 : teB f = true
              · simp [c1, c2, c3]
              · simp at c2 c3; exact absurd ⟨⟨c1, c2⟩, c3⟩ b3
          · simp at c1; simp [c1]
    · rw [h2]
      have hmem : f.n ∈ ps := List.mem_of_getElem? h3
      have b2 := hpre _ hmem
      have hk : ((0 : Int) + (k : Int)).toNat = k := by omega
      have h0 : (0 : Int) ≤ 0 + (k : Int) := by omega
      simp only [b2, if_true, h0, hk]
      have hcs : (ps.map fun p => (look m p).isSome)[k]? = some (look m f.n).isSome := by rw [List.getElem?_map, h3]; rfl
      rw [hcs]
      by_cases c : reg = true ∨ (look m f.n).isSome = true
      · have c1 : (reg = true ∨ some (look m f.n).isSome = some true) := by simpa using c
        have c2 : ((look m f.n).isSome || reg) = true := by
          rcases c with c | c <;> simp [c]
        rw [if_pos c1, if_pos c2]
        exact .inr ⟨rfl, .inl rfl⟩
      · have c1 : ¬ (reg = true ∨ some (look m f.n).isSome = some true) := by simpa using c
        have c2 : ¬ ((look m f.n).isSome || reg) = true := by
          intro h; apply c; simp at h; rcases h with h | h <;> simp [h]
        rw [if_neg c1, if_neg c2]
        have hset : (ps.map fun p => (look m p).isSome).set k true = ps.map fun p => (look (m ++ [(f.n, f.v)]) p).isSome := by
          apply List.ext_getElem?
          intro i
          rw [List.getElem?_set, List.getElem?_map, List.getElem?_map]
          by_cases hik : k = i
          · subst hik
            rw [if_pos rfl, h3, List.length_map, if_pos h1]
            simp [look_app]
            split <;> simp_all
          · rw [if_neg hik]
            cases hpi : ps[i]? with
            | none => rfl
            | some q =>
              have hq : q ≠ f.n := by
                intro e
                subst e
                exact hik ((List.getElem?_inj h1 hnd).1 (h3.trans hpi.symm))
              simp only [look_app, hq, if_false, Option.map_some]
              cases look m q <;> rfl
        rw [hset]
        refine ls_ps hpre hnd fs _ reg ?_
        intro p hp
        simp at hp
        rcases hp with hp | rfl
        · exact hm p hp
        · exact hmem
/-- How many there are: of some names, and others. -/
theorem len_cnt {ps : List (List UInt8)} (hnd : ps.Nodup) : ∀ m : PM, (m.map (·.1)).Nodup → m.length = ps.countP (fun p => (look m p).isSome) + m.countP (fun p => !decide (p.1 ∈ ps))
  | [], _ => by
    have : ps.countP (fun p => (look [] p).isSome) = 0 := by rw [List.countP_eq_zero]; intro a _; simp [look]
    simp [this]
  | p :: m, h => by
    rw [List.map_cons, List.nodup_cons] at h
    have ih := len_cnt hnd m h.2
    have hno : (look m p.1).isSome = false := by
      cases hh : (look m p.1).isSome with
      | false => rfl
      | true => exact absurd ((look_mem p.1 m).1 hh) h.1
    have hc : ∀ l : List (List UInt8), l.countP (fun q => (look (p :: m) q).isSome) = l.countP (fun q => (look m q).isSome) + l.count p.1 := by
      intro l
      induction l with
      | nil => rfl
      | cons q l ihl =>
        rw [List.countP_cons, List.countP_cons, List.count_cons, ihl]
        simp only [look]
        by_cases e : q = p.1
        · subst e; simp [hno]; omega
        · simp [e]; omega
    rw [hc, List.length_cons, List.countP_cons, ih]
    by_cases e : p.1 ∈ ps
    · have h1 : 0 < ps.count p.1 := List.count_pos_iff.2 e
      have h2 : ps.count p.1 ≤ 1 := List.nodup_iff_count.1 hnd p.1
      simp [e]; omega
    · have : ps.count p.1 = 0 := List.count_eq_zero.2 e
      simp [e, this]; omega

abbrev P4 : List (List UInt8) := [kMethod, kScheme, kPath, kAuth]
abbrev P1 : List (List UInt8) := [kStatus]
def pathOk (s : List UInt8) : Bool := !decide (s = []) && (decide (s[0]? = some 47) || decide (s = [42]))
theorem pathOk_eq (s : List UInt8) : (preSl s || decide (s = [42])) = pathOk s := by
  match s with
  | [] => rfl
  | c :: cs => 
    have : (47 : UInt8) = c ↔ c = 47 := ⟨Eq.symm, Eq.symm⟩
    simp [preSl, pathOk, this]
def reqR (fs : List Fd) (cs : List Bool) : Bool := cs[0]? == some true && cs[1]? == some true && cs[2]? == some true && !decide (ofF kMethod fs = []) && !decide (ofF kScheme fs = []) && pathOk (ofF kPath fs)
def respS (s : List UInt8) : Bool := decide (s.length = 3) && dig 50 53 s 0 && dig 48 57 s 1 && dig 48 57 s 2
def respR (fs : List Fd) (cs : List Bool) : Bool := cs[0]? == some true && respS (ofF kStatus fs)
def tellP (P : PM → Bool) (fs : List Fd) : Bool := match psF [] false fs with
  | some m => P m
  | none => false
def tellR (ps : List (List UInt8)) (R : List Fd → List Bool → Bool) (fs : List Fd) : Bool := match lsF ps (ps.map fun _ => false) false fs with
  | some cs => R fs cs
  | none => false
theorem tell_eq {ps : List (List UInt8)} (hpre : ∀ p ∈ ps, preB p = true) (hnd : ps.Nodup) {P : PM → Bool} {R : List Fd → List Bool → Bool}
    (h1 : ∀ (fs : List Fd) (m : PM), (∀ k, preB k = true → getS m k = ofF k fs) → m.length = ps.countP (fun p => (look m p).isSome) → P m = R fs (ps.map fun p => (look m p).isSome))
    (h2 : ∀ m : PM, ps.countP (fun p => (look m p).isSome) < m.length → P m = false) (fs : List Fd) : tellP P fs = tellR ps R fs := by
  have hm0 : (ps.map fun _ => false) = ps.map fun p => (look [] p).isSome := by simp [look]
  unfold tellP tellR
  rw [hm0]
  rcases ls_ps hpre hnd fs [] false (by simp) with ⟨m', e1, e2, e3⟩ | ⟨e1, e2⟩
  · rw [e1, e2]
    have hn := psF_nodup fs [] false m' (by simp) e2
    have hl := len_cnt hnd m' hn
    have hz : m'.countP (fun p => !decide (p.1 ∈ ps)) = 0 := by rw [List.countP_eq_zero]; intro p hp; simp [e3 p hp]
    rw [hz] at hl
    refine h1 fs m' (fun k hk => ?_) (by omega)
    have := psF_look k hk fs [] false m' e2
    simpa [look] using this
  · rw [e1]
    rcases e2 with e2 | ⟨m', e2, p, hp, hn⟩
    · rw [e2]
    · rw [e2]
      have hn' := psF_nodup fs [] false m' (by simp) e2
      have hl := len_cnt hnd m' hn'
      have hz : 0 < m'.countP (fun p => !decide (p.1 ∈ ps)) := by rw [List.countP_pos_iff]; exact ⟨p, hp, by simp [hn]⟩
      exact h2 m' (by omega)
theorem getS_ne {m : PM} {k : List UInt8} (h : ¬ getS m k = []) : (look m k).isSome = true := by
  unfold getS at h
  cases hl : look m k with
  | none => rw [hl] at h; exact absurd rfl h
  | some s => rfl
theorem b2n (a : Bool) : (if a = true then 1 else 0) = a.toNat := by cases a <;> rfl
theorem request_eq (fs : List Fd) : tellP reqP fs = tellR P4 reqR fs := by
  refine tell_eq (by decide) (by decide) ?_ ?_ fs
  · intro fs m hk hl
    have k1 := hk kMethod (by decide)
    have k2 := hk kScheme (by decide)
    have k3 := hk kPath (by decide)
    have l1 := getS_ne (m := m) (k := kMethod)
    have l2 := getS_ne (m := m) (k := kScheme)
    have l3 := getS_ne (m := m) (k := kPath)
    rw [k1] at l1
    rw [k2] at l2
    rw [k3] at l3
    simp only [List.countP_cons, List.countP_nil, b2n] at hl
    unfold reqP reqR
    rw [k1, k2, k3, pathOk_eq]
    simp only [List.map_cons, List.map_nil]
    revert hl
    revert l1 l2 l3
    generalize (look m kMethod).isSome = a
    generalize (look m kScheme).isSome = b
    generalize (look m kPath).isSome = c
    generalize (look m kAuth).isSome = d
    intro l1 l2 l3 hl
    by_cases z1 : ofF kMethod fs = []
    · simp [z1]
    by_cases z2 : ofF kScheme fs = []
    · simp [z2]
    by_cases z3 : ofF kPath fs = []
    · simp [z3, pathOk]
    have := l1 z1; have := l2 z2; have := l3 z3
    subst a; subst b; subst c
    cases d <;> simp at hl <;> simp [z1, z2, hl]
  · intro m hl
    unfold reqP
    rw [pathOk_eq]
    have l1 := getS_ne (m := m) (k := kMethod)
    have l2 := getS_ne (m := m) (k := kScheme)
    have l3 := getS_ne (m := m) (k := kPath)
    simp only [List.countP_cons, List.countP_nil, b2n] at hl
    by_cases z1 : getS m kMethod = []
    · simp [z1]
    by_cases z2 : getS m kScheme = []
    · simp [z2]
    by_cases z3 : getS m kPath = []
    · simp [z3, pathOk]
    rw [l1 z1, l2 z2, l3 z3] at hl
    revert hl
    cases (look m kAuth).isSome <;> intro hl <;> simp at hl <;> simp <;> omega
theorem response_eq (fs : List Fd) : tellP respP fs = tellR P1 respR fs := by
  refine tell_eq (by decide) (by decide) ?_ ?_ fs
  · intro fs m hk hl
    have k1 := hk kStatus (by decide)
    have l1 := getS_ne (m := m) (k := kStatus)
    rw [k1] at l1
    simp only [List.countP_cons, List.countP_nil, b2n] at hl
    unfold respP respR respS
    rw [k1]
    simp only [List.map_cons, List.map_nil]
    revert hl
    revert l1
    generalize (look m kStatus).isSome = a
    intro l1 hl
    by_cases z1 : ofF kStatus fs = []
    · simp [z1]
    have := l1 z1
    subst a
    simp at hl; simp [hl]
  · intro m hl
    unfold respP
    have l1 := getS_ne (m := m) (k := kStatus)
    simp only [List.countP_cons, List.countP_nil, b2n] at hl
    by_cases z1 : getS m kStatus = []
    · simp [z1]
    rw [l1 z1] at hl
    simp at hl
    have : ¬ m.length = 1 := by omega
    simp [this]
theorem trailers_eq (fs : List Fd) : tellP (fun m => decide (m.length = 0)) fs = tellR [] (fun _ _ => true) fs := by
  refine tell_eq (by simp) (by simp) ?_ ?_ fs
  · intro fs m hk hl
    simp at hl; simp [hl]
  · intro m hl
    simp at hl; simp; intro e; subst e; simp at hl
theorem gTell_eq (P : PM → Bool) (p : Option (Nat × Nat)) (n cap : Nat) (ex : Bool) (h : H) : gTell P [.sl p n cap ex] h = (readRows Fd.row h 3 p n).bind fun fs => some (.i .i64 (if tellP P fs = true then 0 else 5), h) := by
  simp only [gTell]
  congr 1
  funext fs
  unfold tellP
  cases psF [] false fs <;> simp
end Am
