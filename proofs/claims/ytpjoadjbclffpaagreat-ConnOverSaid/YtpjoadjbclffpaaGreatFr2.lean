/- frame.lay, exactly: over nothing, over a block that is just as long, in place. -/
import Derived.Test.YtpjoadjbclffpaaGreatFr1
import Derived.Test.YtpjoadjbclffpaaGreatAmGc
namespace Am
set_option linter.unusedVariables false
set_option linter.unusedSimpArgs false
set_option maxRecDepth 20000
open Go (IntKind)
variable {pr : Prog}
theorem be_get (num : Int) : ∀ (size m : Nat), m < size → (be num size)[m]? = some (byteAt num (size - 1 - m))
  | 0, m, h => by omega
  | s + 1, 0, h => by simp [be]
  | s + 1, m + 1, h => by
    rw [be, List.getElem?_cons_succ, be_get num s m (by omega)]
    congr 2; omega
theorem be_take (num : Int) (size m : Nat) (h : m < size) : (be num size).take m ++ [byteAt num (size - 1 - m)] = (be num size).take (m + 1) := by
  rw [List.take_add_one, be_get num size m h]; rfl
theorem splice_more {α : Type} {B xs : List α} {y : α} {i : Nat} (h : i + xs.length + 1 ≤ B.length) : splice (splice B i xs) (i + xs.length) [y] = splice B i (xs ++ [y]) := by
  unfold splice
  simp only [List.length_append, List.length_singleton]
  have e1 : (B.take i ++ xs ++ B.drop (i + xs.length)).take (i + xs.length) = B.take i ++ xs := by
    rw [List.take_append_of_le_length (by simp; omega), List.take_of_length_le (by simp; omega)]
  have e2 : (B.take i ++ xs ++ B.drop (i + xs.length)).drop (i + xs.length + 1) = B.drop (i + (xs.length + 1)) := by
    rw [List.drop_append, List.drop_of_length_le (by simp; omega), List.nil_append, List.drop_drop]
    congr 1; simp; omega
  rw [e1, e2]; simp [List.append_assoc]
/-- Bytes laid over others (not to be taken apart). -/
def spl (B : List UInt8) (i : Nat) (xs : List UInt8) : List UInt8 := splice B i xs
def LayI (h0 : H) (b r n c : Nat) (ex : Bool) (B : List UInt8) (num : Int) (size : Nat) (m : Nat) (t : Tm) (h : H) : Prop :=
  m ≤ size ∧ t.v 7 = .i .i64 ((m : Int) - 1) ∧ t.v 2 = .i .i64 num ∧ t.v 0 = .sl (some (b, r)) (n + (size - m)) c ex ∧ h.get b = some (.bytes (spl B (r + n) ((be num size).take (size - m))) false) ∧ KeptBut b h0 h
theorem lay_in {h : H} {b r n c : Nat} {ex : Bool} {B : List UInt8} {num : Int} {size : Nat} (hs : size ≤ 8) (hc : n + size ≤ c) (hB : r + n + size ≤ B.length) (hlt : b < h.nx) (g0 : h.get b = some (.bytes B false)) :
    wpF pr c_frame_lay [.sl (some (b, r)) n c ex, .i .i64 size, .i .i64 num] h (fun v g => v = .sl (some (b, r)) (n + size) c ex ∧ g.get b = some (.bytes (spl B (r + n) (be num size)) false) ∧ KeptBut b h g) := by
  unfold wpF c_frame_lay
  refine ⟨by simp, ?_⟩
  simp only [↓STEP, go_sem, ↓reduceIte, Nat.reduceEqDiff, Nat.reduceLeDiff, Nat.reduceLT, Nat.reduceAdd, Nat.reduceSub, Nat.reduceMul, Int.reduceLT, Int.reduceLE, Int.reduceEq, Int.reduceAdd, Int.reduceSub, Int.reduceMul, Int.reduceNeg, Int.reduceToNat, reduceCtorEq]
  refine wpA_loop_inv (LayI h b r n c ex B num size) ?_ (m := size) ?_
  · rintro m t g ⟨hm, t7, t2, t0, gb, hk⟩
    by_cases h0 : m = 0
    · subst h0
      simp only [↓STEP, go_sem, ↓reduceIte, Nat.reduceEqDiff, Nat.reduceLeDiff, Nat.reduceLT, Nat.reduceAdd, Nat.reduceSub, Nat.reduceMul, Int.reduceLT, Int.reduceLE, Int.reduceEq, Int.reduceAdd, Int.reduceSub, Int.reduceMul, Int.reduceNeg, Int.reduceToNat, reduceCtorEq, t7, t2, t0]
      rw [Nat.sub_zero, List.take_of_length_le (by rw [be_len]; omega)] at gb
      exact ⟨by simp, gb, hk⟩
    · obtain ⟨k, rfl⟩ : ∃ k, m = k + 1 := ⟨m - 1, by omega⟩
      have e1 : ((k + 1 : Nat) : Int) - 1 = k := by omega
      rw [e1] at t7
      have h1 : (0 : Int) ≤ k := by omega
      have h2 : ¬ (8 * (k : Int)) < 0 := by omega
      have e2 : IntKind.wrap .i64 (8 * (k : Int)) = 8 * k := wrap_i64 (by omega) (by omega)
      have e3 : Nat.min (8 * (k : Int)).toNat 64 = 8 * k := by
        have : (8 * (k : Int)).toNat = 8 * k := by omega
        rw [this]; exact Nat.min_eq_left (by omega)
      obtain ⟨w1, w2⟩ := wrap8 (num.fdiv (2 ^ (8 * k)))
      have w3 : byteOf (.i .u8 (IntKind.wrap .u8 (num.fdiv (2 ^ (8 * k))))) = some (byteAt num k) := by
        unfold byteOf; simp only; rw [if_pos ⟨w1, w2⟩]; rfl
      generalize hx : IntKind.wrap .u8 (num.fdiv (2 ^ (8 * k))) = x at *
      have w4 : bytesOf [[V.i .u8 x]].flatten = some [byteAt num k] := by
        show (byteOf (.i .u8 x)).bind _ = _
        rw [w3]; rfl
      have tl : ((be num size).take (size - (k + 1))).length = size - (k + 1) := by rw [List.length_take, be_len]; omega
      have sl : (splice B (r + n) ((be num size).take (size - (k + 1)))).length = B.length := splice_len (by rw [tl]; omega)
      have e6 := be_take num size (size - (k + 1)) (by omega)
      rw [show size - 1 - (size - (k + 1)) = k from by omega, show size - (k + 1) + 1 = size - k from by omega] at e6
      have s2 : splice (splice B (r + n) ((be num size).take (size - (k + 1)))) (r + (n + (size - (k + 1)))) [byteAt num k] = splice B (r + n) ((be num size).take (size - k)) := by
        rw [show r + (n + (size - (k + 1))) = r + n + ((be num size).take (size - (k + 1))).length from by rw [tl]; omega, splice_more (by rw [tl]; omega), e6]
      change g.get b = some (.bytes (spl B (r + n) ((be num size).take (size - (k + 1)))) false) at gb
      change (spl B (r + n) ((be num size).take (size - (k + 1)))).length = B.length at sl
      change splice (spl B (r + n) ((be num size).take (size - (k + 1)))) (r + (n + (size - (k + 1)))) [byteAt num k] = spl B (r + n) ((be num size).take (size - k)) at s2
      generalize spl B (r + n) ((be num size).take (size - (k + 1))) = Y at *
      generalize hZ : spl B (r + n) ((be num size).take (size - k)) = Z at *
      have hbn : b ≠ g.nx := by have := hk.1; omega
      have gb2 : (g.push (.bytes [byteAt num k] false)).get b = some (.bytes Y false) := by
        rw [H.get_push, if_neg hbn]; exact gb
      have q1 : appBytes (g.push (.bytes [byteAt num k] false)) 1 (some (b, r)) (n + (size - (k + 1))) c ex [byteAt num k] = some (.sl (some (b, r)) (n + (size - k)) c ex, (g.push (.bytes [byteAt num k] false)).set b (.bytes Z false)) := by
        unfold appBytes
        rw [if_pos (by simp; omega)]
        unfold H.bput
        simp only [gb2, List.cons_ne_nil, if_false, List.length_singleton]
        rw [if_pos (by rw [sl]; omega), Option.bind_some, s2, show n + (size - (k + 1)) + 1 = n + (size - k) from by omega]
      generalize n + (size - (k + 1)) = u at *
      unfold appBytes at q1
      simp only [↓STEP, go_sem, ↓reduceIte, Nat.reduceEqDiff, Nat.reduceLeDiff, Nat.reduceLT, Nat.reduceAdd, Nat.reduceSub, Nat.reduceMul, Int.reduceLT, Int.reduceLE, Int.reduceEq, Int.reduceAdd, Int.reduceSub, Int.reduceMul, Int.reduceNeg, Int.reduceToNat, reduceCtorEq] at q1
      simp only [↓STEP, go_sem, ↓reduceIte, Nat.reduceEqDiff, Nat.reduceLeDiff, Nat.reduceLT, Nat.reduceAdd, Nat.reduceSub, Nat.reduceMul, Int.reduceLT, Int.reduceLE, Int.reduceEq, Int.reduceAdd, Int.reduceSub, Int.reduceMul, Int.reduceNeg, Int.reduceToNat, reduceCtorEq, t7, t2, t0, ge_iff_le, h1, h2, e2, e3, hx, w1, w2, w4, q1]
      have e4 : IntKind.wrap .i64 ((k : Int) - 1) = k - 1 := wrap_i64 (by omega) (by omega)
      refine ⟨k, by omega, by omega, ?_, ?_, ?_, ?_, ?_⟩
      · simp only [↓STEP, go_sem, ↓reduceIte, Nat.reduceEqDiff, Nat.reduceLeDiff, Nat.reduceLT, Nat.reduceAdd, Nat.reduceSub, Nat.reduceMul, Int.reduceLT, Int.reduceLE, Int.reduceEq, Int.reduceAdd, Int.reduceSub, Int.reduceMul, Int.reduceNeg, Int.reduceToNat, reduceCtorEq, e4]
      · simp only [↓STEP, go_sem, ↓reduceIte, Nat.reduceEqDiff, Nat.reduceLeDiff, Nat.reduceLT, Nat.reduceAdd, Nat.reduceSub, Nat.reduceMul, Int.reduceLT, Int.reduceLE, Int.reduceEq, Int.reduceAdd, Int.reduceSub, Int.reduceMul, Int.reduceNeg, Int.reduceToNat, reduceCtorEq, t2]
      · simp only [↓STEP, go_sem, ↓reduceIte, Nat.reduceEqDiff, Nat.reduceLeDiff, Nat.reduceLT, Nat.reduceAdd, Nat.reduceSub, Nat.reduceMul, Int.reduceLT, Int.reduceLE, Int.reduceEq, Int.reduceAdd, Int.reduceSub, Int.reduceMul, Int.reduceNeg, Int.reduceToNat, reduceCtorEq]
      · simp only [↓STEP, go_sem, ↓reduceIte, Nat.reduceEqDiff, Nat.reduceLeDiff, Nat.reduceLT, Nat.reduceAdd, Nat.reduceSub, Nat.reduceMul, Int.reduceLT, Int.reduceLE, Int.reduceEq, Int.reduceAdd, Int.reduceSub, Int.reduceMul, Int.reduceNeg, Int.reduceToNat, reduceCtorEq, hZ]
      · exact hk.push.setb
  · have e4 : IntKind.wrap .i64 ((size : Int) - 1) = size - 1 := wrap_i64 (by omega) (by omega)
    refine ⟨Nat.le_refl _, ?_, ?_, ?_, ?_, KeptBut.refl⟩
    · simp only [↓STEP, go_sem, ↓reduceIte, Nat.reduceEqDiff, Nat.reduceLeDiff, Nat.reduceLT, Nat.reduceAdd, Nat.reduceSub, Nat.reduceMul, Int.reduceLT, Int.reduceLE, Int.reduceEq, Int.reduceAdd, Int.reduceSub, Int.reduceMul, Int.reduceNeg, Int.reduceToNat, reduceCtorEq, e4]
    · simp only [↓STEP, go_sem, ↓reduceIte, Nat.reduceEqDiff, Nat.reduceLeDiff, Nat.reduceLT, Nat.reduceAdd, Nat.reduceSub, Nat.reduceMul, Int.reduceLT, Int.reduceLE, Int.reduceEq, Int.reduceAdd, Int.reduceSub, Int.reduceMul, Int.reduceNeg, Int.reduceToNat, reduceCtorEq, e4]
    · simp only [↓STEP, go_sem, ↓reduceIte, Nat.reduceEqDiff, Nat.reduceLeDiff, Nat.reduceLT, Nat.reduceAdd, Nat.reduceSub, Nat.reduceMul, Int.reduceLT, Int.reduceLE, Int.reduceEq, Int.reduceAdd, Int.reduceSub, Int.reduceMul, Int.reduceNeg, Int.reduceToNat, reduceCtorEq, e4, Nat.sub_self, Nat.add_zero]
    · rw [Nat.sub_self, List.take_zero, g0]
      unfold spl splice
      simp
/-- frame.lay's answer. -/
def gLay (ys : List V) (h : H) : Option (V × H) :=
  match ys with
  | [.sl none 0 0 _, .i .i64 (.ofNat (s + 1)), .i .i64 num] => if Nat.ble s 7 then some (.sl (some (h.nx, 0)) (s + 1) (s + 1) false, h.push (.bytes (be num (s + 1)) false)) else none
  | [.sl (some (b, r)) n c ex, .i .i64 (.ofNat (s + 1)), .i .i64 num] => match h.get b with
    | some (.bytes B false) =>
      if Nat.ble s 7 && Nat.ble n 1000000 && Nat.ble (b + 1) h.nx then
        (if Nat.ble (n + (s + 1)) c then (if Nat.ble (r + n + (s + 1)) B.length then some (.sl (some (b, r)) (n + (s + 1)) c ex, h.set b (.bytes (splice B (r + n) (be num (s + 1))) false)) else none)
        else (match r, ex with
          | 0, false => if Nat.beq B.length n && Nat.beq c n then some (.sl (some (h.nx, 0)) (n + (s + 1)) (n + (s + 1)) false, (h.kill b).push (.bytes (B ++ be num (s + 1)) false)) else none
          | _, _ => none))
      else none
    | _ => none
  | _ => none
theorem ble_iff {m n : Nat} : Nat.ble m n = true ↔ m ≤ n := ⟨Nat.le_of_ble_eq_true, Nat.ble_eq_true_of_le⟩
theorem wpF_mono {af : AFunc} {args : List V} {h : H} {K K' : V → H → Prop} (hw : wpF pr af args h K) (hk : ∀ v h', K v h' → K' v h') : wpF pr af args h K' := by
  refine ⟨hw.1, wpA_mono hw.2 ?_⟩
  intro e t h' hr
  unfold wpRes at hr ⊢
  first
  | (obtain ⟨h1, vs, h2, h3⟩ := hr; exact ⟨h1, vs, h2, hk _ _ h3⟩)
  | (cases e <;> first | exact hr | (obtain ⟨vs, h2, h3⟩ := hr; exact ⟨vs, h2, hk _ _ h3⟩))
/-- What was made from nothing, or over a block that is let go. -/
theorem gc_over {h h1 : H} {a a' : Option (Nat × Nat)} {c : Nat} {ex : Bool} {l : List UInt8} (hl : l ≠ []) (x : Ex1 h1 a' c ex l) (hn : h.nx ≤ h1.nx) (hnew : ∀ b, blkOf a' = some b → h.nx ≤ b ∨ blkOf a = some b) (hk : ∀ i, i < h.nx → blkOf a ≠ some i → h1.get i = h.get i) :
    Abs h (.sl a' l.length c ex) h1 (.sl (some (h.nx, 0)) l.length l.length false) ((match blkOf a with | none => h | some b => h.kill b).push (.bytes l false)) := by
  rcases x with ⟨rfl, rfl, rfl⟩ | ⟨b', rfl, rfl, rfl, g1⟩
  · exact absurd rfl hl
  have hb' := hnew b' rfl
  have key : ∀ i, ((match blkOf a with | none => h | some b => h.kill b).push (.bytes l false)).get i = if i = h.nx then some (.bytes l false) else if blkOf a = some i then none else h.get i := by
    intro i
    cases hb : blkOf a with
    | none => simp [H.get_push]
    | some b =>
      simp only [H.get_push, H.get_kill]
      show (if i = h.nx then _ else _) = _
      by_cases h1 : i = h.nx
      · simp [h1]
      · by_cases h2 : i = b
        · simp [h1, h2]
        · simp [h1, h2, Ne.symm h2]
  have knx : ((match blkOf a with | none => h | some b => h.kill b).push (.bytes l false)).nx = h.nx + 1 := by cases blkOf a <;> rfl
  refine Abs.gc (σ := fun _ => b') (fun hlow => ⟨by rw [knx]; omega, ?_, ?_, ?_⟩) ?_
  · intro b x hb hx
    rw [key, if_neg (by omega)] at hx
    by_cases h2 : blkOf a = some b
    · rw [if_pos h2] at hx; cases hx
    · rw [if_neg h2] at hx
      exact ⟨by rw [hx]; rfl, .inl ⟨hx, by rw [hk b hb h2]; exact hx⟩⟩
  · intro b x hb hx
    rw [key] at hx
    by_cases h1 : b = h.nx
    · rw [if_pos h1] at hx; cases hx
      exact ⟨by rw [knx]; omega, _, g1, rfl, rfl⟩
    · rw [if_neg h1] at hx
      split at hx
      · cases hx
      · exact absurd (hlow _ _ hx) (by omega)
  · intro i j x y hx hy hij
    have one : ∀ i z, ((match blkOf a with | none => h | some b => h.kill b).push (.bytes l false)).get i = some z → (i = h.nx ∧ gcN h (fun _ => b') i = b') ∨ (i < h.nx ∧ blkOf a ≠ some i ∧ gcN h (fun _ => b') i = i) := by
      intro i z hz
      rw [key] at hz
      by_cases h1 : i = h.nx
      · subst h1; exact .inl ⟨rfl, if_neg (Nat.lt_irrefl _)⟩
      · rw [if_neg h1] at hz
        split at hz
        · cases hz
        · rename_i h2
          have := hlow _ _ hz
          exact .inr ⟨this, h2, if_pos this⟩
    rcases one i x hx with ⟨a1, a2⟩ | ⟨a1, a2, a3⟩ <;> rcases one j y hy with ⟨d1, d2⟩ | ⟨d1, d2, d3⟩
    · omega
    · rw [a2, d3] at hij; subst hij
      rcases hb' with hb' | hb'
      · omega
      · exact absurd hb' d2
    · rw [a3, d2] at hij; subst hij
      rcases hb' with hb' | hb'
      · omega
      · exact absurd hb' a2
    · rw [a3, d3] at hij; exact hij
  · refine ⟨.inr ⟨Nat.le_refl _, by rw [knx]; omega, rfl⟩, rfl, rfl, rfl, rfl⟩
theorem lay_ok : OkFor pr c_frame_lay gLay := by
  intro ys h v h' hg
  unfold gLay at hg
  split at hg
  · rename_i ex s num
    split at hg
    · rename_i hs
      cases hg
      have hs := ble_iff.1 hs
      refine wpF_mono (lay_runs (bs := []) (c := 0) (a := none) (ex := ex) (num := num) (size := s + 1) (by omega) (by simp) (BSl.nil h) (.inl ⟨rfl, rfl, rfl⟩)) ?_
      rintro v1 g ⟨a', c', ex', rfl, o, x, n1, n2, n3⟩
      simp only [List.nil_append] at o x
      have := gc_over (h := h) (a := none) (l := be num (s + 1)) (by simp [be]) x n1 (fun b hb => by
        rcases n3 with n3 | ⟨b', n3, n4, _⟩
        · rw [n3] at hb; cases hb
        · rw [n3] at hb; cases hb; exact .inl n4) (fun i hi _ => n2 i hi (by simp [blkOf]))
      rw [be_len] at this
      simpa [blkOf] using this
    · cases hg
  · rename_i b r n c ex s num
    split at hg
    · rename_i B gb
      split at hg
      · rename_i h1
        simp only [Bool.and_eq_true, ble_iff] at h1
        obtain ⟨⟨hs, hn⟩, hb⟩ := h1
        split at hg
        · rename_i hc
          split at hg
          · rename_i hB
            cases hg
            refine wpF_mono (lay_in (size := s + 1) (num := num) (by omega) (ble_iff.1 hc) (ble_iff.1 hB) (by omega) gb) ?_
            rintro v1 g ⟨rfl, g1, hk⟩
            exact Abs.gc (σ := fun i => i) (fun hlow => by
              refine ⟨Nat.le_refl _, ?_, ?_, ?_⟩
              · intro i x hi hx
                rw [H.get_set] at hx
                by_cases h1 : i = b
                · subst h1
                  rw [if_pos rfl] at hx; cases hx
                  exact ⟨by rw [gb]; rfl, .inr ⟨_, g1, rfl, rfl⟩⟩
                · rw [if_neg h1] at hx
                  exact ⟨by rw [hx]; rfl, .inl ⟨hx, by rw [hk.2 i hi h1]; exact hx⟩⟩
              · intro i x hi hx
                rw [H.get_set] at hx
                by_cases h1 : i = b
                · omega
                · rw [if_neg h1] at hx
                  exact absurd (hlow _ _ hx) (by omega)
              · intro i j x y hx hy hij
                have : ∀ i, gcN h (fun i => i) i = i := fun i => by unfold gcN; split <;> rfl
                rw [this, this] at hij; exact hij) ⟨.inl ⟨by omega, rfl, by rw [gb]; rfl⟩, rfl, rfl, rfl, rfl⟩
          · cases hg
        · rename_i hc
          split at hg
          · split at hg
            · rename_i h2
              simp only [Bool.and_eq_true, Nat.beq_eq] at h2
              obtain ⟨rfl, rfl⟩ := h2
              cases hg
              refine wpF_mono (lay_runs (bs := B) (c := B.length) (a := some (b, 0)) (ex := false) (num := num) (size := s + 1) (by omega) (by omega) ⟨rfl, Nat.le_refl _, by omega, B, gb, by omega, by simp⟩ (.inr ⟨b, rfl, rfl, rfl, gb⟩)) ?_
              rintro v1 g ⟨a', c', ex', rfl, o, x, n1, n2, n3⟩
              have := gc_over (h := h) (a := some (b, 0)) (l := B ++ be num (s + 1)) (by simp [be]) x n1 (fun b' hb => by
                rcases n3 with n3 | ⟨b2, n3, n4, _⟩
                · rw [n3] at hb; exact .inr hb
                · rw [n3] at hb; cases hb; exact .inl n4) (fun i hi h => n2 i hi h)
              rw [List.length_append, be_len] at this
              simpa [blkOf] using this
            · cases hg
          · cases hg
      · cases hg
    · cases hg
  · cases hg
end Am
