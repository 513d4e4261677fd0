/- Bytes that are read: a slice's part of a block. -/
import Derived.Test.YtjcchmmmbegamaaDoorAmAll3
import Derived.Test.YtjcchmmmbegamaaDoorAmAll2
namespace Am
set_option linter.unusedVariables false
set_option linter.unusedSimpArgs false

variable {h g : H} {a : Option (Nat × Nat)} {n k : Nat} {l : List UInt8}

theorem bseg_len (hr : h.bseg a n = some l) : l.length = n := by
  unfold H.bseg at hr
  split at hr
  · rename_i h0; cases hr; exact h0.symm
  · split at hr
    · cases hr
    · split at hr
      · split at hr
        · cases hr; rw [List.length_take, List.length_drop]; omega
        · cases hr
      · cases hr
theorem bseg_zero : h.bseg a 0 = some [] := by unfold H.bseg; rw [if_pos rfl]
theorem bseg_open (hr : h.bseg a n = some l) (hn : 0 < n) : ∃ b r bs ro, a = some (b, r) ∧ h.get b = some (.bytes bs ro) ∧ r + n ≤ bs.length ∧ l = (bs.drop r).take n ∧ ∀ i, i < n → bs[r + i]? = l[i]? := by
  unfold H.bseg at hr
  split at hr
  · omega
  · split at hr
    · cases hr
    · rename_i b r
      split at hr
      · rename_i bs ro hg
        split at hr
        · rename_i hle
          cases hr
          exact ⟨b, r, bs, ro, rfl, hg, hle, rfl, fun i hi => by rw [List.getElem?_take_of_lt hi, List.getElem?_drop]⟩
        · cases hr
      · cases hr
theorem bseg_from {b r s : Nat} (hr : h.bseg (some (b, r)) n = some l) (hs : s ≤ n) : h.bseg (some (b, r + s)) (n - s) = some (l.drop s) := by
  by_cases h0 : n - s = 0
  · rw [h0, bseg_zero, List.drop_eq_nil_of_le (by rw [bseg_len hr]; omega)]
  · obtain ⟨b', r', bs, ro, e, hg, hle, rfl, _⟩ := bseg_open hr (by omega)
    cases e
    unfold H.bseg
    rw [if_neg h0]
    simp only [hg]
    rw [if_pos (by omega), List.drop_take, List.drop_drop]
theorem bseg_kept (hr : h.bseg a n = some l) (hb : ∀ b, blkOf a = some b → b < h.nx) (hk : Kept h g) : g.bseg a n = some l := by
  by_cases h0 : n = 0
  · subst h0; rw [bseg_zero] at hr ⊢; exact hr
  · obtain ⟨b, r, bs, ro, rfl, hg, hle, rfl, _⟩ := bseg_open hr (by omega)
    unfold H.bseg
    rw [if_neg h0]
    simp only [hk.2 b (hb b rfl), hg]
    rw [if_pos hle]

/-- A slice of bytes, read: its block is there. -/
def rdB (h : H) (a : Option (Nat × Nat)) (n : Nat) : Option (List UInt8) :=
  match a with
  | none => h.bseg a n
  | some (b, _) => if b < h.nx then h.bseg a n else none
theorem rdB_bseg (hr : rdB h a n = some l) : h.bseg a n = some l := by
  unfold rdB at hr
  split at hr
  · exact hr
  · split at hr
    · exact hr
    · cases hr
theorem rdB_lt (hr : rdB h a n = some l) : ∀ b, blkOf a = some b → b < h.nx := by
  intro b hb
  unfold rdB at hr
  split at hr
  · cases hb
  · cases hb
    split at hr
    · assumption
    · cases hr
theorem rdB_of (hr : h.bseg a n = some l) (hb : ∀ b, blkOf a = some b → b < h.nx) : rdB h a n = some l := by
  unfold rdB
  split
  · exact hr
  · rw [if_pos (hb _ rfl)]; exact hr
theorem rdB_kept (hr : rdB h a n = some l) (hk : Kept h g) : rdB g a n = some l :=
  rdB_of (bseg_kept (rdB_bseg hr) (rdB_lt hr) hk) fun b hb => Nat.lt_of_lt_of_le (rdB_lt hr b hb) hk.1
theorem BSl.rdB {c : Nat} (o : BSl h a n c l) : rdB h a n = some l := rdB_of o.bseg fun b hb => o.lt hb

/-! ### Bytes that are being built -/
/-- Bytes of one's own, in a block made since. -/
structure OutB (h0 g : H) (a : Option (Nat × Nat)) (n c : Nat) (out : List UInt8) : Prop where
  sl : BSl g a n c out
  kept : Kept h0 g
  fresh : ∀ b, blkOf a = some b → h0.nx ≤ b
theorem OutB.nil (h : H) : OutB h h none 0 0 [] := ⟨BSl.nil h, Kept.refl, fun b hb => by cases hb⟩
theorem OutB.push {h0 : H} {c : Nat} {out : List UInt8} (o : OutB h0 g a n c out) (x : Blk) : OutB h0 (g.push x) a n c out :=
  ⟨o.sl.keep (Nat.le_succ _) fun i hi => by rw [H.get_push, if_neg (by have := o.sl.lt hi; omega)], o.kept.push, o.fresh⟩
theorem OutB.app {h0 : H} {c : Nat} {out : List UInt8} (o : OutB h0 g a n c out) (ex : Bool) (new : List UInt8) (hn : n + new.length ≤ 35184372088832) :
    ∃ a' c' ex' g', appBytes g 1 a n c ex new = some (.sl a' (n + new.length) c' ex', g') ∧ OutB h0 g' a' (n + new.length) c' (out ++ new) := by
  obtain ⟨a', c', ex', g', e, o', k1, k2, k3⟩ := o.sl.app (bytes := 1) (ex := ex) (new := new) (by unfold roomOk; simp; omega)
  have hnx := o.kept.1
  refine ⟨a', c', ex', g', e, o', ⟨by omega, fun b hb => ?_⟩, fun b hb => ?_⟩
  · rw [k2 b (by omega) fun hc => by have := o.fresh b hc; omega]
    exact o.kept.2 b hb
  · rcases k3 with ⟨k3, _⟩ | ⟨k3, _⟩
    · exact o.fresh b (by rw [← k3]; exact hb)
    · rw [k3] at hb; cases hb; exact hnx
theorem OutB.app1 {h0 : H} {c : Nat} {out : List UInt8} (o : OutB h0 g a n c out) (x : Blk) (ex : Bool) (b : UInt8) (hn : n + 1 ≤ 35184372088832) :
    ∃ a' c' ex' g', appBytes (g.push x) 1 a n c ex [b] = some (.sl a' (n + 1) c' ex', g') ∧ OutB h0 g' a' (n + 1) c' (out ++ [b]) := (o.push x).app ex [b] hn
theorem appBytes_nx {bytes : Nat} {c : Nat} {ex : Bool} {new : List UInt8} {out : List UInt8} (o : BSl g a n c out) {v : V} {g' : H} (e : appBytes g bytes a n c ex new = some (v, g')) : Nat.ble g.nx g'.nx = true := by
  by_cases hc : n + new.length ≤ c
  · unfold appBytes at e
    rw [if_pos hc] at e
    obtain ⟨x, h1, h2⟩ := Option.bind_eq_some_iff.1 e
    cases h2
    unfold H.bput at h1
    split at h1
    · cases h1; simp
    · split at h1
      · cases h1
      · split at h1
        · split at h1
          · cases h1; simp [H.set]
          · cases h1
        · cases h1
  · by_cases hr : roomOk (n + new.length) bytes = true
    · obtain ⟨a', c', ex', g2, e2, _, k1, _⟩ := o.app (bytes := bytes) (ex := ex) (new := new) hr
      rw [e] at e2
      cases e2
      simpa using k1
    · unfold appBytes at e
      rw [if_neg hc, if_neg hr] at e
      cases e
theorem bseg_tmp (g : H) (l : List UInt8) : (g.push (.bytes l false)).bseg (some (g.nx, 0)) l.length = some l := by
  by_cases h0 : l.length = 0
  · rw [h0, bseg_zero, List.eq_nil_of_length_eq_zero h0]
  · unfold H.bseg
    have hg : (g.push (.bytes l false)).get g.nx = some (.bytes l false) := by rw [H.get_push, if_pos rfl]
    rw [if_neg h0]
    simp only [hg]
    simp
theorem bseg_tmp1 (g : H) (b : UInt8) : (g.push (.bytes [b] false)).bseg (some (g.nx, 0)) 1 = some [b] := bseg_tmp g [b]
/-- Bytes that were built by appends alone: what their block holds, to the last place. -/
structure OutX (h0 g : H) (a : Option (Nat × Nat)) (n : Nat) (ex : Bool) (out : List UInt8) : Prop where
  kept : Kept h0 g
  len : n = out.length
  is : (a = none ∧ n = 0 ∧ ex = true) ∨ ∃ b, a = some (b, 0) ∧ ex = false ∧ h0.nx ≤ b ∧ b < g.nx ∧ g.get b = some (.bytes out false) ∧ out ≠ []
theorem OutX.nil (h : H) : OutX h h none 0 true [] := ⟨Kept.refl, rfl, .inl ⟨rfl, rfl, rfl⟩⟩
theorem OutX.push {h0 : H} {ex : Bool} {out : List UInt8} (o : OutX h0 g a n ex out) (x : Blk) : OutX h0 (g.push x) a n ex out := by
  refine ⟨o.kept.push, o.len, ?_⟩
  rcases o.is with h | ⟨b, h1, h2, h3, h4, h5, h6⟩
  · exact .inl h
  · exact .inr ⟨b, h1, h2, h3, Nat.lt_succ_of_lt h4, by rw [H.get_push, if_neg (by omega)]; exact h5, h6⟩
theorem OutX.bseg {h0 : H} {ex : Bool} {out : List UInt8} (o : OutX h0 g a n ex out) : g.bseg a n = some out := by
  rcases o.is with ⟨rfl, h2, rfl⟩ | ⟨b, rfl, rfl, h3, h4, h5, h6⟩
  · have he : out = [] := List.eq_nil_of_length_eq_zero (by rw [← o.len]; exact h2)
    rw [h2, bseg_zero, he]
  · have hne : n ≠ 0 := by rw [o.len]; intro h; exact h6 (List.eq_nil_of_length_eq_zero h)
    unfold H.bseg
    rw [if_neg hne]
    simp only [h5]
    rw [if_pos (by rw [o.len]; omega), List.drop_zero, o.len, List.take_length]
theorem OutX.rdB {h0 : H} {ex : Bool} {out : List UInt8} (o : OutX h0 g a n ex out) : rdB g a n = some out :=
  rdB_of o.bseg fun b hb => by
    rcases o.is with ⟨rfl, _⟩ | ⟨b', rfl, _, _, h4, _⟩
    · cases hb
    · cases hb; exact h4
theorem OutX.app {h0 : H} {ex : Bool} {out : List UInt8} (o : OutX h0 g a n ex out) (new : List UInt8) (hn : n + new.length ≤ 35184372088832) (hne : new ≠ []) :
    ∃ b' g', appBytes g 1 a n n ex new = some (.sl (some (b', 0)) (n + new.length) (n + new.length) false, g') ∧ OutX h0 g' (some (b', 0)) (n + new.length) false (out ++ new) := by
  have hlen : 0 < new.length := List.length_pos_iff.2 hne
  have hr : roomOk (n + new.length) 1 = true := by unfold roomOk; simp; omega
  unfold appBytes
  rw [if_neg (by omega), if_pos hr, o.bseg, Option.bind_some]
  have hlose : ∃ h', g.loseB a ex = some h' ∧ h'.nx = g.nx ∧ Kept h0 h' := by
    unfold H.loseB
    rcases o.is with ⟨rfl, h2, rfl⟩ | ⟨b, rfl, rfl, h3, h4, h5, h6⟩
    · exact ⟨g, rfl, rfl, o.kept⟩
    · simp only [h5]
      exact ⟨_, rfl, rfl, o.kept.kill h3⟩
  obtain ⟨h', hl', hx', hk'⟩ := hlose
  rw [hl', Option.bind_some]
  exact ⟨_, _, rfl, hk'.push, by rw [List.length_append, o.len], .inr ⟨_, rfl, rfl, hk'.1, Nat.lt_succ_self _, by rw [H.get_push, if_pos rfl], by intro h; exact hne (List.append_eq_nil_iff.1 h).2⟩⟩
theorem OutX.app1 {h0 : H} {ex : Bool} {out : List UInt8} (o : OutX h0 g a n ex out) (x : Blk) (c : UInt8) (hn : n + 1 ≤ 35184372088832) :
    ∃ b' g', appBytes (g.push x) 1 a n n ex [c] = some (.sl (some (b', 0)) (n + 1) (n + 1) false, g') ∧ OutX h0 g' (some (b', 0)) (n + 1) false (out ++ [c]) := (o.push x).app [c] hn (by simp)
/-- All but a slice's own block is as it was. -/
def KeptA (a : Option (Nat × Nat)) (g g' : H) : Prop := g.nx ≤ g'.nx ∧ ∀ i, i < g.nx → blkOf a ≠ some i → g'.get i = g.get i
theorem KeptA.refl : KeptA a g g := ⟨Nat.le_refl _, fun _ _ _ => rfl⟩
theorem KeptA.of_kept {g' : H} (k : Kept g g') : KeptA a g g' := ⟨k.1, fun i hi _ => k.2 i hi⟩
theorem KeptA.trans {a' : Option (Nat × Nat)} {g1 g2 : H} (k : KeptA a g g1) (k' : KeptA a' g1 g2) (hf : ∀ b, blkOf a' = some b → g.nx ≤ b ∨ blkOf a = some b) : KeptA a g g2 :=
  ⟨Nat.le_trans k.1 k'.1, fun i hi hne => by
    rw [k'.2 i (Nat.lt_of_lt_of_le hi k.1) fun hb => by rcases hf i hb with h | h; omega; exact hne h]
    exact k.2 i hi hne⟩
theorem OutX.keep {h0 g' : H} {ex : Bool} {out : List UInt8} (o : OutX h0 g a n ex out) (k : Kept g g') : OutX h0 g' a n ex out := by
  refine ⟨o.kept.trans k, o.len, ?_⟩
  rcases o.is with h | ⟨b, h1, h2, h3, h4, h5, h6⟩
  · exact .inl h
  · exact .inr ⟨b, h1, h2, h3, Nat.lt_of_lt_of_le h4 k.1, by rw [k.2 b h4]; exact h5, h6⟩
theorem OutX.appK {h0 : H} {ex : Bool} {out : List UInt8} (o : OutX h0 g a n ex out) (new : List UInt8) (hn : n + new.length ≤ 35184372088832) (hne : new ≠ []) :
    ∃ b' g', appBytes g 1 a n n ex new = some (.sl (some (b', 0)) (n + new.length) (n + new.length) false, g') ∧ OutX h0 g' (some (b', 0)) (n + new.length) false (out ++ new) ∧ KeptA a g g' ∧ g.nx ≤ b' ∧ Nat.ble g.nx g'.nx = true := by
  have hlen : 0 < new.length := List.length_pos_iff.2 hne
  have hr : roomOk (n + new.length) 1 = true := by unfold roomOk; simp; omega
  unfold appBytes
  rw [if_neg (by omega), if_pos hr, o.bseg, Option.bind_some]
  have hlose : ∃ h', g.loseB a ex = some h' ∧ h'.nx = g.nx ∧ Kept h0 h' ∧ KeptA a g h' := by
    unfold H.loseB
    rcases o.is with ⟨rfl, h2, rfl⟩ | ⟨b, rfl, rfl, h3, h4, h5, h6⟩
    · exact ⟨g, rfl, rfl, o.kept, KeptA.refl⟩
    · simp only [h5]
      exact ⟨_, rfl, rfl, o.kept.kill h3, Nat.le_refl _, fun i hi hne => by rw [H.get_kill, if_neg (by rintro rfl; exact hne rfl)]⟩
  obtain ⟨h', hl', hx', hk', hk2⟩ := hlose
  rw [hl', Option.bind_some]
  refine ⟨_, _, rfl, ⟨hk'.push, by rw [List.length_append, o.len], .inr ⟨_, rfl, rfl, hk'.1, Nat.lt_succ_self _, by rw [H.get_push, if_pos rfl], by intro h; exact hne (List.append_eq_nil_iff.1 h).2⟩⟩, ⟨?_, fun i hi hne => ?_⟩, by omega, ?_⟩
  · show g.nx ≤ h'.nx + 1; omega
  · rw [H.get_push, if_neg (by omega)]; exact hk2.2 i hi hne
  · show Nat.ble g.nx (h'.nx + 1) = true; simp; omega
theorem OutX.app1K {h0 : H} {ex : Bool} {out : List UInt8} (o : OutX h0 g a n ex out) (x : Blk) (c : UInt8) (hn : n + 1 ≤ 35184372088832) :
    ∃ b' g', appBytes (g.push x) 1 a n n ex [c] = some (.sl (some (b', 0)) (n + 1) (n + 1) false, g') ∧ OutX h0 g' (some (b', 0)) (n + 1) false (out ++ [c]) ∧ KeptA a g g' ∧ g.nx ≤ b' := by
  obtain ⟨b', g', e, o', k, hb, _⟩ := (o.push x).appK [c] hn (by simp)
  refine ⟨b', g', e, o', KeptA.trans (KeptA.of_kept (Kept.push Kept.refl)) k fun b hb => .inr hb, ?_⟩
  have : (g.push x).nx = g.nx + 1 := rfl
  omega
/-- Bytes given back, and what stands behind them. -/
def outV (h : H) (out : List UInt8) (vs : List V) : V × H :=
  if out = [] then (.tup (.sl none 0 0 true :: vs), h) else (.tup (.sl (some (h.nx, 0)) out.length out.length false :: vs), h.push (.bytes out false))
theorem OutX.abs {h0 : H} {ex : Bool} {out : List UInt8} (o : OutX h0 g a n ex out) {vs : List V} (hvs : V.plains vs = true) : Abs h0 (.tup (.sl a n n ex :: vs)) g (outV h0 out vs).1 (outV h0 out vs).2 := by
  unfold outV
  rcases o.is with ⟨rfl, h2, rfl⟩ | ⟨b, rfl, rfl, h3, h4, h5, h6⟩
  · rw [if_pos (List.eq_nil_of_length_eq_zero (by rw [← o.len]; exact h2)), h2]
    exact Abs.out rfl (by simp [V.plain, V.plains, hvs]) o.kept
  · rw [if_neg h6, o.len]
    exact Abs.slice2 o.kept h5 h3 rfl rfl hvs
/-! ### Rows that are being built -/
structure OutR (h0 g : H) (k : Nat) (a : Option (Nat × Nat)) (n : Nat) (ex : Bool) (out : List (List V)) : Prop where
  kept : Kept h0 g
  len : n = out.length
  is : (a = none ∧ n = 0 ∧ ex = true) ∨ ∃ b, a = some (b, 0) ∧ ex = false ∧ h0.nx ≤ b ∧ b < g.nx ∧ g.get b = some (.rows k out false) ∧ out ≠ []
theorem OutR.nil (h : H) (k : Nat) : OutR h h k none 0 true [] := ⟨Kept.refl, rfl, .inl ⟨rfl, rfl, rfl⟩⟩
theorem OutR.push {h0 : H} {ex : Bool} {out : List (List V)} (o : OutR h0 g k a n ex out) (x : Blk) : OutR h0 (g.push x) k a n ex out := by
  refine ⟨o.kept.push, o.len, ?_⟩
  rcases o.is with h | ⟨b, h1, h2, h3, h4, h5, h6⟩
  · exact .inl h
  · exact .inr ⟨b, h1, h2, h3, Nat.lt_succ_of_lt h4, by rw [H.get_push, if_neg (by omega)]; exact h5, h6⟩
theorem rseg_zero : h.rseg k a 0 = some [] := by unfold H.rseg; rw [if_pos rfl]
theorem OutR.rseg {h0 : H} {ex : Bool} {out : List (List V)} (o : OutR h0 g k a n ex out) : g.rseg k a n = some out := by
  rcases o.is with ⟨rfl, h2, rfl⟩ | ⟨b, rfl, rfl, h3, h4, h5, h6⟩
  · have he : out = [] := List.eq_nil_of_length_eq_zero (by rw [← o.len]; exact h2)
    rw [h2, rseg_zero, he]
  · have hne : n ≠ 0 := by rw [o.len]; intro h; exact h6 (List.eq_nil_of_length_eq_zero h)
    unfold H.rseg
    rw [if_neg hne]
    simp only [h5]
    rw [if_pos ⟨trivial, by rw [o.len]; omega⟩, List.drop_zero, o.len, List.take_length]
theorem OutR.app {h0 : H} {ex : Bool} {out : List (List V)} (o : OutR h0 g k a n ex out) (bytes : Nat) (new : List (List V)) (hb : 0 < bytes) (hb2 : bytes ≤ 1048576) (hn : (n + new.length) * bytes ≤ 35184372088832) (hne : new ≠ []) :
    ∃ b' g', appRows g k bytes a n n ex new = some (.sl (some (b', 0)) (n + new.length) (n + new.length) false, g') ∧ OutR h0 g' k (some (b', 0)) (n + new.length) false (out ++ new) := by
  have hlen : 0 < new.length := List.length_pos_iff.2 hne
  have hr : roomOk (n + new.length) bytes = true := by unfold roomOk; simp [hb, hb2, hn]
  unfold appRows
  rw [if_neg (by omega), if_pos hr, o.rseg, Option.bind_some]
  have hlose : ∃ h', g.loseR k a ex = some h' ∧ h'.nx = g.nx ∧ Kept h0 h' := by
    unfold H.loseR
    rcases o.is with ⟨rfl, h2, rfl⟩ | ⟨b, rfl, rfl, h3, h4, h5, h6⟩
    · exact ⟨g, rfl, rfl, o.kept⟩
    · simp only [h5]
      exact ⟨_, rfl, rfl, o.kept.kill h3⟩
  obtain ⟨h', hl', hx', hk'⟩ := hlose
  rw [hl', Option.bind_some]
  exact ⟨_, _, rfl, hk'.push, by rw [List.length_append, o.len], .inr ⟨_, rfl, rfl, hk'.1, Nat.lt_succ_self _, by rw [H.get_push, if_pos rfl], by intro h; exact hne (List.append_eq_nil_iff.1 h).2⟩⟩
theorem OutR.app1 {h0 : H} {ex : Bool} {out : List (List V)} (o : OutR h0 g k a n ex out) (x : Blk) (bytes : Nat) (row : List V) (hb : 0 < bytes) (hb2 : bytes ≤ 1048576) (hn : (n + 1) * bytes ≤ 35184372088832) :
    ∃ b' g', appRows (g.push x) k bytes a n n ex [row] = some (.sl (some (b', 0)) (n + 1) (n + 1) false, g') ∧ OutR h0 g' k (some (b', 0)) (n + 1) false (out ++ [row]) := (o.push x).app bytes [row] hb hb2 hn (by simp)
theorem rseg_tmp (g : H) (k : Nat) (l : List (List V)) : (g.push (.rows k l false)).rseg k (some (g.nx, 0)) l.length = some l := by
  by_cases h0 : l.length = 0
  · rw [h0, rseg_zero, List.eq_nil_of_length_eq_zero h0]
  · unfold H.rseg
    have hg : (g.push (.rows k l false)).get g.nx = some (.rows k l false) := by rw [H.get_push, if_pos rfl]
    rw [if_neg h0]
    simp only [hg]
    simp
theorem rseg_tmp1 (g : H) (k : Nat) (row : List V) : (g.push (.rows k [row] false)).rseg k (some (g.nx, 0)) 1 = some [row] := rseg_tmp g k [row]
/-- Rows given back, and what stands behind them. -/
def outVR (h : H) (k : Nat) (out : List (List V)) (vs : List V) : V × H :=
  if out = [] then (.tup (.sl none 0 0 true :: vs), h) else (.tup (.sl (some (h.nx, 0)) out.length out.length false :: vs), h.push (.rows k out false))
theorem OutR.abs {h0 : H} {ex : Bool} {out : List (List V)} (o : OutR h0 g k a n ex out) {vs : List V} (hvs : V.plains vs = true) (hpl : (Blk.rows k out false).plain = true) : Abs h0 (.tup (.sl a n n ex :: vs)) g (outVR h0 k out vs).1 (outVR h0 k out vs).2 := by
  unfold outVR
  rcases o.is with ⟨rfl, h2, rfl⟩ | ⟨b, rfl, rfl, h3, h4, h5, h6⟩
  · rw [if_pos (List.eq_nil_of_length_eq_zero (by rw [← o.len]; exact h2)), h2]
    exact Abs.out rfl (by simp [V.plain, V.plains, hvs]) o.kept
  · rw [if_neg h6, o.len]
    exact Abs.slice2 o.kept h5 h3 rfl hpl hvs

theorem outVR_rd (h : H) (k : Nat) (out : List (List V)) (vs : List V) : ∃ a n ex g, outVR h k out vs = (.tup (.sl a n n ex :: vs), g) ∧ n = out.length ∧ Kept h g ∧
    ∀ (j : Nat) row, out[j]? = some row → ∃ b, a = some (b, 0) ∧ h.nx ≤ b ∧ b < g.nx ∧ g.get b = some (.rows k out false) := by
  unfold outVR
  by_cases he : out = []
  · rw [if_pos he, he]
    exact ⟨_, _, _, _, rfl, rfl, Kept.refl, fun j row hj => by simp at hj⟩
  · rw [if_neg he]
    exact ⟨_, _, _, _, rfl, rfl, Kept.push Kept.refl, fun j row hj => ⟨_, rfl, Nat.le_refl _, Nat.lt_succ_self _, by rw [H.get_push, if_pos rfl]⟩⟩
/-! ### Numbers' bits -/
theorem wrap_nat (x : Nat) (h : x < 9223372036854775808) : Go.IntKind.wrap .i64 (x : Int) = x := wrap_i64 (by omega) (by omega)
theorem bits_or (a b : Nat) (ha : a < 9223372036854775808) (hb : b < 9223372036854775808) : bitsOp .or .i64 (a : Int) (b : Int) = some ((a ||| b : Nat) : Int) := by
  have hx : a ||| b < 2 ^ 63 := Nat.or_lt_two_pow (by omega) (by omega)
  have h1 : (BitVec.ofInt 64 (a : Int)).toNat = a := by rw [BitVec.ofInt_natCast, BitVec.toNat_ofNat]; exact Nat.mod_eq_of_lt (by omega)
  have h2 : (BitVec.ofInt 64 (b : Int)).toNat = b := by rw [BitVec.ofInt_natCast, BitVec.toNat_ofNat]; exact Nat.mod_eq_of_lt (by omega)
  show some (Go.IntKind.wrap .i64 ((BitVec.ofInt 64 (a : Int) ||| BitVec.ofInt 64 (b : Int)).toNat : Int)) = _
  rw [BitVec.toNat_or, h1, h2, wrap_nat _ (by omega)]
theorem or_low (a b k : Nat) (hb : b < 2 ^ k) : (a * 2 ^ k) ||| b = a * 2 ^ k + b := by
  rw [Nat.mul_comm, ← Nat.two_pow_add_eq_or_of_lt hb]
theorem and_low (a k : Nat) : a &&& (2 ^ k - 1) = a % 2 ^ k := Nat.and_two_pow_sub_one_eq_mod a k
theorem fdiv_nat (a b : Nat) : Int.fdiv (a : Int) (b : Int) = ((a / b : Nat) : Int) := by
  rw [Int.fdiv_eq_ediv_of_nonneg _ (Int.natCast_nonneg b)]; rfl

end Am
