/- The laws of lists: FieldTurn. -/
import Derived.Test.YtmgkdkbmlfciaaaField12
namespace Am
set_option linter.unusedVariables false
set_option linter.unusedSimpArgs false
set_option maxRecDepth 20000
set_option maxHeartbeats 8000000
variable {pr : Prog}

theorem psF_skip {f : Fd} (hp : preB f.n = false) (m : PM) (reg : Bool) (fs : List Fd) : psF m reg (f :: fs) = none ∨ (∀ m' reg' fs', psF m' reg' (f :: fs') = psF m' true fs') := by
  by_cases b1 : valueB f.v = false
  · exact .inl (by simp [psF, b1])
  by_cases b2 : nameB f.n = false
  · exact .inl (by simp [psF, b1, hp, b2])
  by_cases b3 : barredB f.n = true
  · exact .inl (by simp [psF, b1, hp, b2, b3])
  by_cases b4 : teB f = true
  · exact .inl (by simp [psF, b1, hp, b2, b3, b4])
  · exact .inr fun m' reg' fs' => by simp [psF, b1, hp, b2, b3, b4]
def good (f : Fd) : Prop := ∀ m' reg' fs', psF m' reg' (f :: fs') = psF m' true fs'
theorem psF_bad {f : Fd} (hp : preB f.n = false) (hb : ¬ good f) : ∀ m reg fs, psF m reg (f :: fs) = none := fun m reg fs => (psF_skip hp m reg fs).resolve_right hb
theorem psF_none_tail {f : Fd} {fs fs' : List Fd} (h : ∀ m reg, psF m reg fs = none) (m : PM) (reg : Bool) : psF m reg (f :: fs) = none := by
  simp only [psF, h]; simp
theorem psF_has_bad {f : Fd} (hp : preB f.n = false) (hb : ¬ good f) : ∀ (fs : List Fd) (i : Nat), fs[i]? = some f → ∀ m reg, psF m reg fs = none
  | [], i, h, m, reg => by simp at h
  | g :: fs, 0, h, m, reg => by simp at h; subst h; exact psF_bad hp hb m reg fs
  | g :: fs, i + 1, h, m, reg => psF_none_tail (fs' := fs) (psF_has_bad hp hb fs i (by simpa using h)) m reg
theorem psF_set {f g : Fd} (hf : good f) (hg : good g) : ∀ (fs : List Fd) (i : Nat), fs[i]? = some f → ∀ m reg, psF m reg (fs.set i g) = psF m reg fs
  | [], i, h, m, reg => by simp at h
  | x :: fs, 0, h, m, reg => by simp at h; subst h; rw [List.set_cons_zero, hg, hf]
  | x :: fs, i + 1, h, m, reg => by
    have ih := psF_set hf hg fs i (by simpa using h)
    rw [List.set_cons_succ]
    simp only [psF, ih]
theorem psF_swap {fs : List Fd} {i j : Nat} {f g : Fd} (hi : fs[i]? = some f) (hj : fs[j]? = some g) (pf : preB f.n = false) (pg : preB g.n = false) (m : PM) (reg : Bool) : psF m reg ((fs.set i g).set j f) = psF m reg fs := by
  have li : i < fs.length := (List.getElem?_eq_some_iff.1 hi).1
  have lj : j < fs.length := (List.getElem?_eq_some_iff.1 hj).1
  have hj2 : ((fs.set i g).set j f)[j]? = some f := by rw [List.getElem?_set, if_pos rfl, List.length_set, if_pos lj]
  by_cases hf : good f
  · by_cases hg : good g
    · by_cases hij : i = j
      · subst hij
        rw [psF_set (f := g) hg hf (fs.set i g) i (by rw [List.getElem?_set, if_pos rfl, if_pos li]), psF_set hf hg fs i hi]
      · rw [psF_set (f := g) hg hf (fs.set i g) j (by rw [List.getElem?_set, if_neg hij, hj]), psF_set hf hg fs i hi]
    · by_cases hij : i = j
      · subst hij
        rw [hi] at hj; cases hj; exact absurd hf hg
      · rw [psF_has_bad pg hg fs j hj, psF_has_bad pg hg _ i (by rw [List.getElem?_set, if_neg (fun h => hij h.symm), List.getElem?_set, if_pos rfl, if_pos li])]
  · rw [psF_has_bad pf hf fs i hi, psF_has_bad pf hf _ j hj2]
theorem tell_swap {P : PM → Bool} {fs : List Fd} {i j : Nat} {f g : Fd} (hi : fs[i]? = some f) (hj : fs[j]? = some g) (pf : preB f.n = false) (pg : preB g.n = false) : tellP P ((fs.set i g).set j f) = tellP P fs := by
  unfold tellP
  rw [psF_swap hi hj pf pg]
theorem readRows_set {g : H} {b r n : Nat} {fs : List Fd} {all : List (List V)} (hr : readRows Fd.row g 3 (some (b, r)) n = some fs) (hg : g.get b = some (.rows 3 all false)) {i : Nat} (hi : i < n) (f : Fd) :
    readRows Fd.row (g.set b (.rows 3 (all.set (r + i) (Fd.row f)) false)) 3 (some (b, r)) n = some (fs.set i f) := by
  obtain ⟨⟨hl, hrows⟩, h63⟩ := readRows_spec hr
  rw [List.length_map] at hl
  refine readRows_eq Fd.row_inj ⟨by simpa using hl, .inr ?_⟩ h63
  obtain ⟨b', r', all', ro', e, hb, hg', hat⟩ := hrows.resolve_left (by omega)
  cases e
  rw [hg] at hg'; cases hg'
  refine ⟨b, r, _, false, rfl, hb, by rw [H.get_set, if_pos rfl], fun k row hk => ?_⟩
  rw [List.map_set] at hk
  rw [List.getElem?_set] at hk ⊢
  by_cases hik : i = k
  · subst hik
    have h1 := hat i (Fd.row (fs[i]'(by omega))) (by rw [List.getElem?_map, List.getElem?_eq_getElem (by omega)]; rfl)
    have h2 := (List.getElem?_eq_some_iff.1 h1).1
    rw [if_pos rfl, if_pos h2]
    rw [if_pos rfl, List.length_map, if_pos (by omega)] at hk
    exact hk
  · rw [if_neg hik] at hk
    rw [if_neg (by omega)]
    exact hat k row hk
end Am
