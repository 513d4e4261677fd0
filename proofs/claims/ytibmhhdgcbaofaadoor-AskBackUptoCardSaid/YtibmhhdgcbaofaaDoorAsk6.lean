/- base64 for URLs: there and back; the law AskBase. -/
import Derived.Test.YtibmhhdgcbaofaaDoorAsk5
import Derived.Test.YtibmhhdgcbaofaaDoorAsk1
namespace Am
set_option linter.unusedVariables false
set_option linter.unusedSimpArgs false
set_option maxRecDepth 20000
set_option maxHeartbeats 4000000
variable {pr : Prog}

theorem val6_let6 {n : Nat} (hn : n < 64) : val6 (let6 n) = some n := by
  have := List.all_eq_true.1 fIdx_self n (List.mem_range.2 hn)
  have h : fIdx letL (let6 n) = n := by simpa using this
  unfold val6
  rw [h, if_pos (by omega)]; simp
theorem let6_val6 {c : UInt8} {n : Nat} (h : val6 c = some n) : n < 64 ∧ let6 n = c := by
  unfold val6 at h
  split at h
  · rename_i h0
    have h1 := fIdx_letL c
    cases h
    have h2 := (fIdx_at (c := c) (j := (fIdx letL c).toNat) (by omega)).2 (by omega)
    rw [let6_at (by omega)] at h2
    exact ⟨by omega, Option.some.inj h2⟩
  · cases h

theorem Enc.pre : ∀ (l : List UInt8) (w k : Nat) (o : List UInt8), l.foldl Enc.step ⟨w, k, o⟩ = ⟨(l.foldl Enc.step ⟨w, k, []⟩).w, (l.foldl Enc.step ⟨w, k, []⟩).k, o ++ (l.foldl Enc.step ⟨w, k, []⟩).out⟩
  | [], w, k, o => by simp
  | c :: l, w, k, o => by
    have key : ∀ o, Enc.step ⟨w, k, o⟩ c = ⟨(Enc.step ⟨w, k, []⟩ c).w, (Enc.step ⟨w, k, []⟩ c).k, o ++ (Enc.step ⟨w, k, []⟩ c).out⟩ := by
      intro o
      unfold Enc.step
      simp only
      split
      · rfl
      · split <;> rfl
    rw [List.foldl_cons, List.foldl_cons, key o, Enc.pre l _ _ (o ++ _)]
    rw [show Enc.step ⟨w, k, []⟩ c = ⟨(Enc.step ⟨w, k, []⟩ c).w, (Enc.step ⟨w, k, []⟩ c).k, (Enc.step ⟨w, k, []⟩ c).out⟩ from rfl, Enc.pre l _ _ (Enc.step ⟨w, k, []⟩ c).out]
    simp only [List.append_assoc]
theorem codeP_one (x : UInt8) : codeP [x] = [let6 (x.toNat / 4), let6 (x.toNat % 4 * 16)] := by
  have := x.toNat_lt
  unfold codeP Enc.of Enc.fin
  simp only [List.foldl_cons, List.foldl_nil, Enc.step, if_true, show ¬ (2 = 0) by decide, if_false, List.nil_append, List.cons_append]
  rw [show (0 * 256 + x.toNat) / 4 % 64 = x.toNat / 4 by omega, show (0 * 256 + x.toNat) % 4 * 16 % 64 = x.toNat % 4 * 16 by omega]
theorem codeP_two (x y : UInt8) : codeP [x, y] = [let6 (x.toNat / 4), let6 (x.toNat % 4 * 16 + y.toNat / 16), let6 (y.toNat % 16 * 4)] := by
  have := x.toNat_lt
  have := y.toNat_lt
  unfold codeP Enc.of Enc.fin
  simp only [List.foldl_cons, List.foldl_nil, Enc.step, if_true, show ¬ (2 = 0) by decide, show ¬ (4 = 0) by decide, show ¬ (4 = 2) by decide, if_false, List.nil_append, List.cons_append]
  rw [show (0 * 256 + x.toNat) / 4 % 64 = x.toNat / 4 by omega, show ((0 * 256 + x.toNat) % 4 * 256 + y.toNat) / 16 % 64 = x.toNat % 4 * 16 + y.toNat / 16 by omega,
    show ((0 * 256 + x.toNat) % 4 * 256 + y.toNat) % 16 * 4 % 64 = y.toNat % 16 * 4 by omega]
theorem codeP_cons3 (x y z : UInt8) (r : List UInt8) : codeP (x :: y :: z :: r) = let6 (x.toNat / 4) :: let6 (x.toNat % 4 * 16 + y.toNat / 16) :: let6 (y.toNat % 16 * 4 + z.toNat / 64) :: let6 (z.toNat % 64) :: codeP r := by
  have := x.toNat_lt
  have := y.toNat_lt
  have := z.toNat_lt
  unfold codeP Enc.of
  simp only [List.foldl_cons, Enc.step, if_true, show ¬ (2 = 0) by decide, show ¬ (4 = 0) by decide, show ¬ (4 = 2) by decide, if_false, List.nil_append, List.cons_append]
  rw [Enc.pre r 0 0 _]
  unfold Enc.fin
  simp only
  rw [show (0 * 256 + x.toNat) / 4 % 64 = x.toNat / 4 by omega, show ((0 * 256 + x.toNat) % 4 * 256 + y.toNat) / 16 % 64 = x.toNat % 4 * 16 + y.toNat / 16 by omega,
    show (((0 * 256 + x.toNat) % 4 * 256 + y.toNat) % 16 * 256 + z.toNat) / 64 % 64 = y.toNat % 16 * 4 + z.toNat / 64 by omega, show (((0 * 256 + x.toNat) % 4 * 256 + y.toNat) % 16 * 256 + z.toNat) % 64 = z.toNat % 64 by omega]
  split
  · rfl
  · split <;> rfl

theorem Dec.pre : ∀ (l : List UInt8) (w k : Nat) (o : List UInt8), l.foldl Dec.more (some ⟨w, k, o⟩) = (l.foldl Dec.more (some ⟨w, k, []⟩)).map fun s => ⟨s.w, s.k, o ++ s.out⟩
  | [], w, k, o => by simp
  | c :: l, w, k, o => by
    have key : ∀ o n, Dec.step ⟨w, k, o⟩ n = ⟨(Dec.step ⟨w, k, []⟩ n).w, (Dec.step ⟨w, k, []⟩ n).k, o ++ (Dec.step ⟨w, k, []⟩ n).out⟩ := by
      intro o n
      unfold Dec.step
      simp only
      split
      · simp
      · split
        · rfl
        · split <;> rfl
    rw [List.foldl_cons, List.foldl_cons]
    unfold Dec.more
    simp only [Option.bind_some]
    cases hv : val6 c with
    | none => simp only [Option.map_none]; show List.foldl Dec.more none l = Option.map _ (List.foldl Dec.more none l); rw [Dec.none_fold]; rfl
    | some n =>
      simp only [Option.map_some]
      show List.foldl Dec.more (some (Dec.step ⟨w, k, o⟩ n)) l = Option.map _ (List.foldl Dec.more (some (Dec.step ⟨w, k, []⟩ n)) l)
      rw [key o n, Dec.pre l _ _ (o ++ _)]
      rw [show Dec.step ⟨w, k, []⟩ n = ⟨(Dec.step ⟨w, k, []⟩ n).w, (Dec.step ⟨w, k, []⟩ n).k, (Dec.step ⟨w, k, []⟩ n).out⟩ from rfl, Dec.pre l _ _ (Dec.step ⟨w, k, []⟩ n).out]
      rw [Option.map_map]
      congr 1
      funext s
      simp only [Function.comp_apply, List.append_assoc]
theorem decP_cons4 {a b c d : UInt8} {va vb vc vd : Nat} (ha : val6 a = some va) (hb : val6 b = some vb) (hc : val6 c = some vc) (hd : val6 d = some vd) (r : List UInt8) :
    decP (a :: b :: c :: d :: r) = (decP r).map ([UInt8.ofNat (va * 4 + vb / 16), UInt8.ofNat (vb % 16 * 16 + vc / 4), UInt8.ofNat (vc % 4 * 64 + vd)] ++ ·) := by
  have := (let6_val6 ha).1
  have := (let6_val6 hb).1
  have := (let6_val6 hc).1
  have := (let6_val6 hd).1
  have hl : (a :: b :: c :: d :: r).length % 4 = r.length % 4 := by simp only [List.length_cons]; omega
  unfold decP Dec.of
  rw [hl]
  simp only [List.foldl_cons, Dec.more, Option.bind_some, ha, hb, hc, hd, Option.map_some, Dec.step, if_true, show ¬ (6 = 0) by decide, show ¬ (4 = 0) by decide, show ¬ (4 = 6) by decide, show ¬ (2 = 0) by decide, show ¬ (2 = 6) by decide, show ¬ (2 = 4) by decide, if_false, List.nil_append, List.cons_append]
  show (List.foldl Dec.more (some _) r).bind _ = _
  rw [Dec.pre r 0 0 _]
  rw [show ((0 * 64 + va) % 64 * 64 + vb) / 16 = va * 4 + vb / 16 by omega, show (((0 * 64 + va) % 64 * 64 + vb) % 16 * 64 + vc) / 4 = vb % 16 * 16 + vc / 4 by omega,
    show ((((0 * 64 + va) % 64 * 64 + vb) % 16 * 64 + vc) % 4 * 64 + vd) / 1 = vc % 4 * 64 + vd by omega]
  cases List.foldl Dec.more (some ⟨0, 0, []⟩) r with
  | none => rfl
  | some s =>
    simp only [Option.map_some, Option.bind_some]
    split <;> rfl
theorem decP_three {a b c : UInt8} {va vb vc : Nat} (ha : val6 a = some va) (hb : val6 b = some vb) (hc : val6 c = some vc) :
    decP [a, b, c] = if vc % 4 ≠ 0 then none else some [UInt8.ofNat (va * 4 + vb / 16), UInt8.ofNat (vb % 16 * 16 + vc / 4)] := by
  have := (let6_val6 ha).1
  have := (let6_val6 hb).1
  have := (let6_val6 hc).1
  unfold decP Dec.of
  simp only [List.foldl_cons, List.foldl_nil, Dec.more, Option.bind_some, ha, hb, hc, Option.map_some, Dec.step, if_true, show ¬ (6 = 0) by decide, show ¬ (4 = 0) by decide, show ¬ (4 = 6) by decide, if_false, List.nil_append, List.cons_append]
  rw [show ((0 * 64 + va) % 64 * 64 + vb) / 16 = va * 4 + vb / 16 by omega, show (((0 * 64 + va) % 64 * 64 + vb) % 16 * 64 + vc) / 4 = vb % 16 * 16 + vc / 4 by omega,
    show (((0 * 64 + va) % 64 * 64 + vb) % 16 * 64 + vc) % 4 = vc % 4 by omega]
  simp
theorem decP_two {a b : UInt8} {va vb : Nat} (ha : val6 a = some va) (hb : val6 b = some vb) :
    decP [a, b] = if vb % 16 ≠ 0 then none else some [UInt8.ofNat (va * 4 + vb / 16)] := by
  have := (let6_val6 ha).1
  have := (let6_val6 hb).1
  unfold decP Dec.of
  simp only [List.foldl_cons, List.foldl_nil, Dec.more, Option.bind_some, ha, hb, Option.map_some, Dec.step, if_true, show ¬ (6 = 0) by decide, if_false, List.nil_append, List.cons_append]
  rw [show ((0 * 64 + va) % 64 * 64 + vb) / 16 = va * 4 + vb / 16 by omega, show ((0 * 64 + va) % 64 * 64 + vb) % 16 = vb % 16 by omega]
  simp
theorem ofNat_to (x : UInt8) (n : Nat) (h : n = x.toNat) : UInt8.ofNat n = x := by subst h; simp
/-- What was written is read. -/
theorem dec_code : ∀ (l : List UInt8), decP (codeP l) = some l
  | [] => rfl
  | [x] => by
    have := x.toNat_lt
    rw [codeP_one, decP_two (val6_let6 (by omega)) (val6_let6 (by omega)), if_neg (by omega), ofNat_to x _ (by omega)]
  | [x, y] => by
    have := x.toNat_lt
    have := y.toNat_lt
    rw [codeP_two, decP_three (val6_let6 (by omega)) (val6_let6 (by omega)) (val6_let6 (by omega)), if_neg (by omega), ofNat_to x _ (by omega), ofNat_to y _ (by omega)]
  | x :: y :: z :: r => by
    have := x.toNat_lt
    have := y.toNat_lt
    have := z.toNat_lt
    rw [codeP_cons3, decP_cons4 (val6_let6 (by omega)) (val6_let6 (by omega)) (val6_let6 (by omega)) (val6_let6 (by omega)), dec_code r, ofNat_to x _ (by omega), ofNat_to y _ (by omega), ofNat_to z _ (by omega)]
    rfl
theorem val_some {a : UInt8} {l : List UInt8} {d : List UInt8} {w k : Nat} {o : List UInt8} (h : ((a :: l).foldl Dec.more (some ⟨w, k, o⟩)).isSome) : ∃ v, val6 a = some v ∧ (l.foldl Dec.more (some (Dec.step ⟨w, k, o⟩ v))).isSome := by
  rw [List.foldl_cons] at h
  unfold Dec.more at h
  simp only [Option.bind_some] at h
  cases hv : val6 a with
  | none =>
    rw [hv] at h
    have : List.foldl Dec.more none l = none := Dec.none_fold l
    simp only [Option.map_none] at h
    change (List.foldl Dec.more none l).isSome = true at h
    rw [this] at h; cases h
  | some v => rw [hv] at h; exact ⟨v, rfl, h⟩
theorem decP_some {l d : List UInt8} (h : decP l = some d) : (l.foldl Dec.more (some ⟨0, 0, []⟩)).isSome := by
  unfold decP Dec.of at h
  cases hf : l.foldl Dec.more (some ⟨0, 0, []⟩) with
  | none => rw [hf] at h; cases h
  | some s => rfl
theorem codeP_len (l : List UInt8) : (codeP l).length ≤ 2 * l.length + 1 := by
  have := (Enc.of_ok l l.length (Nat.le_refl _)).2
  rw [List.take_length] at this
  unfold codeP Enc.fin
  split
  · omega
  · split <;> simp <;> omega
theorem decP_len {l d : List UInt8} (h : decP l = some d) : d.length ≤ l.length := by
  unfold decP at h
  obtain ⟨s, hs, h⟩ := Option.bind_eq_some_iff.1 h
  split at h
  · cases h
  · cases h
    exact (Dec.of_ok l l.length s (Nat.le_refl _) (by rw [List.take_length]; exact hs)).2

end Am
