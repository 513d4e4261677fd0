/- frame: numbers written, the highest byte first. -/
import Derived.Test.YtpjoadjbclffpaaGreatConf1
import Derived.Test.YtpjoadjbclffpaaGreatAmAll3
import Derived.Test.YtpjoadjbclffpaaGreatCodesFr1
namespace Am
set_option linter.unusedVariables false
set_option linter.unusedSimpArgs false
set_option maxRecDepth 20000
open Go (IntKind)
variable {pr : Prog}
/-- The byte of a number at a place. -/
def byteAt (num : Int) (k : Nat) : UInt8 := UInt8.ofNat ((IntKind.u8.wrap (num.fdiv (2 ^ (8 * k)))).toNat)
/-- So many bytes, the highest first. -/
def be (num : Int) : Nat → List UInt8
  | 0 => []
  | k + 1 => byteAt num k :: be num k
theorem wrap8 (x : Int) : 0 ≤ IntKind.wrap .u8 x ∧ IntKind.wrap .u8 x < 256 := by
  unfold IntKind.wrap
  simp only [IntKind.bits, IntKind.signed]
  constructor <;> simp <;> omega
theorem be_len (num : Int) : ∀ k, (be num k).length = k
  | 0 => rfl
  | k + 1 => by rw [be, List.length_cons, be_len num k]
/-- What appends leave as it was. -/
def Grown (h : H) (a : Option (Nat × Nat)) (g : H) (a' : Option (Nat × Nat)) : Prop :=
  h.nx ≤ g.nx ∧ (∀ i, i < h.nx → blkOf a ≠ some i → g.get i = h.get i) ∧ (blkOf a' = blkOf a ∨ ∃ b, blkOf a' = some b ∧ h.nx ≤ b ∧ b < g.nx)
/-- A slice that is nil, or has a block of its own that is just as long. -/
def Ex1 (h : H) (a : Option (Nat × Nat)) (c : Nat) (ex : Bool) (l : List UInt8) : Prop := (a = none ∧ c = 0 ∧ l = []) ∨ ∃ b, a = some (b, 0) ∧ c = l.length ∧ ex = false ∧ h.get b = some (.bytes l false)
theorem app_ex {h g : H} {a a' : Option (Nat × Nat)} {c c' k bytes : Nat} {ex ex' : Bool} {l new : List UInt8} (o : BSl h a l.length c l) (x : Ex1 h a c ex l) (hn : new ≠ []) (q : appBytes h bytes a l.length c ex new = some (.sl a' k c' ex', g)) : Ex1 g a' c' ex' (l ++ new) := by
  have hc : ¬ l.length + new.length ≤ c := by
    have : 0 < new.length := List.length_pos_iff.2 hn
    rcases x with ⟨_, rfl, rfl⟩ | ⟨b, _, rfl, _⟩
    · simp; omega
    · omega
  unfold appBytes at q
  rw [if_neg hc] at q
  split at q
  · rw [o.bseg, Option.bind_some] at q
    obtain ⟨h', _, q⟩ := Option.bind_eq_some_iff.1 q
    cases q
    exact .inr ⟨h'.nx, rfl, by rw [List.length_append], rfl, by rw [H.get_push, if_pos rfl]⟩
  · cases q
theorem Ex1.keep {h g : H} {a : Option (Nat × Nat)} {c : Nat} {ex : Bool} {l : List UInt8} (x : Ex1 h a c ex l) (hk : ∀ i, blkOf a = some i → g.get i = h.get i) : Ex1 g a c ex l := by
  rcases x with x | ⟨b, rfl, e1, e2, e3⟩
  · exact .inl x
  · exact .inr ⟨b, rfl, e1, e2, (hk b rfl).trans e3⟩
def LayL (h0 : H) (a0 : Option (Nat × Nat)) (bs : List UInt8) (num : Int) (size : Nat) (m : Nat) (t : Tm) (h : H) : Prop :=
  ∃ a c ex l, t.v 7 = .i .i64 ((m : Int) - 1) ∧ t.v 2 = .i .i64 num ∧ t.v 0 = .sl a l.length c ex ∧ BSl h a l.length c l ∧ Ex1 h a c ex l ∧ m ≤ size ∧ l ++ be num m = bs ++ be num size ∧ Grown h0 a0 h a
theorem lay_runs {h : H} {a : Option (Nat × Nat)} {c : Nat} {ex : Bool} {bs : List UInt8} {num : Int} {size : Nat} (hs : size ≤ 8) (hb : bs.length < 2 ^ 40) (o : BSl h a bs.length c bs) (x0 : Ex1 h a c ex bs) :
    wpF pr c_frame_lay [.sl a bs.length c ex, .i .i64 size, .i .i64 num] h (fun v g => ∃ a' c' ex', v = .sl a' (bs.length + size) c' ex' ∧ BSl g a' (bs.length + size) c' (bs ++ be num size) ∧ Ex1 g a' c' ex' (bs ++ be num size) ∧ Grown h a g a') := by
  unfold wpF c_frame_lay
  refine ⟨by simp, ?_⟩
  simp only [↓STEP, go_sem, ↓reduceIte, Nat.reduceEqDiff, Nat.reduceLeDiff, Nat.reduceLT, Nat.reduceAdd, Nat.reduceSub, Nat.reduceMul, Int.reduceLT, Int.reduceLE, Int.reduceEq, Int.reduceAdd, Int.reduceSub, Int.reduceMul, Int.reduceNeg, Int.reduceToNat, reduceCtorEq]
  refine wpA_loop_inv (LayL h a bs num size) ?_ (m := size) ?_
  · rintro m t g ⟨a1, c1, ex1, l, t7, t2, t0, o1, y1, hm, hl, hg⟩
    by_cases h0 : m = 0
    · subst h0
      simp only [↓STEP, go_sem, ↓reduceIte, Nat.reduceEqDiff, Nat.reduceLeDiff, Nat.reduceLT, Nat.reduceAdd, Nat.reduceSub, Nat.reduceMul, Int.reduceLT, Int.reduceLE, Int.reduceEq, Int.reduceAdd, Int.reduceSub, Int.reduceMul, Int.reduceNeg, Int.reduceToNat, reduceCtorEq, t7, t2, t0]
      rw [be, List.append_nil] at hl
      have hlen : l.length = bs.length + size := by rw [hl, List.length_append, be_len]
      rw [hlen] at o1 ⊢
      rw [hl] at o1 y1
      exact ⟨_, _, _, rfl, o1, y1, hg⟩
    · obtain ⟨k, rfl⟩ : ∃ k, m = k + 1 := ⟨m - 1, by omega⟩
      have e1 : ((k + 1 : Nat) : Int) - 1 = k := by omega
      rw [e1] at t7
      have h1 : (0 : Int) ≤ k := by omega
      have h2 : ¬ (8 * (k : Int)) < 0 := by omega
      have e2 : IntKind.wrap .i64 (8 * (k : Int)) = 8 * k := wrap_i64 (by omega) (by omega)
      have e3 : Nat.min (8 * (k : Int)).toNat 64 = 8 * k := by
        have : (8 * (k : Int)).toNat = 8 * k := by omega
        rw [this]; exact Nat.min_eq_left (by omega)
      obtain ⟨w1, w2⟩ := wrap8 (num.fdiv (2 ^ (8 * k)))
      have w3 : byteOf (.i .u8 (IntKind.wrap .u8 (num.fdiv (2 ^ (8 * k))))) = some (byteAt num k) := by
        unfold byteOf; simp only; rw [if_pos ⟨w1, w2⟩]; rfl
      generalize hx : IntKind.wrap .u8 (num.fdiv (2 ^ (8 * k))) = x at *
      have w4 : bytesOf [[V.i .u8 x]].flatten = some [byteAt num k] := by
        show (byteOf (.i .u8 x)).bind _ = _
        rw [w3]; rfl
      have hll : l.length ≤ bs.length + size := by
        have := congrArg List.length hl
        rw [List.length_append, List.length_append, be_len, be_len] at this; omega
      have o2 : BSl (g.push (.bytes [byteAt num k] false)) a1 l.length c1 l := o1.keep (Nat.le_succ _) (fun i hi => by rw [H.get_push, if_neg (by have := o1.lt hi; omega)])
      obtain ⟨a2, c2, ex2, g2, q1, o3, n1, n2, n3⟩ := o2.app (bytes := 1) (ex := ex1) (new := [byteAt num k]) (by unfold roomOk; simp; omega)
      have y2 := app_ex o2 (y1.keep fun i hi => by rw [H.get_push, if_neg (by have := o1.lt hi; omega)]) (by simp) q1
      unfold appBytes at q1
      simp only [↓STEP, go_sem, ↓reduceIte, Nat.reduceEqDiff, Nat.reduceLeDiff, Nat.reduceLT, Nat.reduceAdd, Nat.reduceSub, Nat.reduceMul, Int.reduceLT, Int.reduceLE, Int.reduceEq, Int.reduceAdd, Int.reduceSub, Int.reduceMul, Int.reduceNeg, Int.reduceToNat, reduceCtorEq] at q1
      simp only [↓STEP, go_sem, ↓reduceIte, Nat.reduceEqDiff, Nat.reduceLeDiff, Nat.reduceLT, Nat.reduceAdd, Nat.reduceSub, Nat.reduceMul, Int.reduceLT, Int.reduceLE, Int.reduceEq, Int.reduceAdd, Int.reduceSub, Int.reduceMul, Int.reduceNeg, Int.reduceToNat, reduceCtorEq, t7, t2, t0, ge_iff_le, h1, h2, e2, e3, hx, w1, w2, w4, q1]
      have e4 : IntKind.wrap .i64 ((k : Int) - 1) = k - 1 := wrap_i64 (by omega) (by omega)
      have hle : (l ++ [byteAt num k]).length = l.length + 1 := by simp
      refine ⟨k, by omega, a2, c2, ex2, l ++ [byteAt num k], ?_, ?_, ?_, ?_, y2, by omega, ?_, ?_⟩
      · simp only [↓STEP, go_sem, ↓reduceIte, Nat.reduceEqDiff, Nat.reduceLeDiff, Nat.reduceLT, Nat.reduceAdd, Nat.reduceSub, Nat.reduceMul, Int.reduceLT, Int.reduceLE, Int.reduceEq, Int.reduceAdd, Int.reduceSub, Int.reduceMul, Int.reduceNeg, Int.reduceToNat, reduceCtorEq, e4]
      · simp only [↓STEP, go_sem, ↓reduceIte, Nat.reduceEqDiff, Nat.reduceLeDiff, Nat.reduceLT, Nat.reduceAdd, Nat.reduceSub, Nat.reduceMul, Int.reduceLT, Int.reduceLE, Int.reduceEq, Int.reduceAdd, Int.reduceSub, Int.reduceMul, Int.reduceNeg, Int.reduceToNat, reduceCtorEq, t2]
      · simp only [↓STEP, go_sem, ↓reduceIte, Nat.reduceEqDiff, Nat.reduceLeDiff, Nat.reduceLT, Nat.reduceAdd, Nat.reduceSub, Nat.reduceMul, Int.reduceLT, Int.reduceLE, Int.reduceEq, Int.reduceAdd, Int.reduceSub, Int.reduceMul, Int.reduceNeg, Int.reduceToNat, reduceCtorEq, hle]
      · rw [hle]; exact o3
      · rw [List.append_assoc]; exact hl
      · obtain ⟨m1, m2, m3⟩ := hg
        have hp : (g.push (.bytes [byteAt num k] false)).nx = g.nx + 1 := rfl
        rw [hp] at n1 n2 n3
        refine ⟨by omega, fun i hi hne => ?_, ?_⟩
        · have hne1 : blkOf a1 ≠ some i := by
            rcases m3 with e | ⟨b, e, hb, _⟩
            · rw [e]; exact hne
            · rw [e]; intro h; cases h; omega
          rw [n2 i (by omega) hne1, H.get_push, if_neg (by omega)]
          exact m2 i hi hne
        · rcases n3 with ⟨e, n⟩ | ⟨e, n⟩
          · rcases m3 with e' | ⟨b, e', hb, hb2⟩
            · exact .inl (e.trans e')
            · exact .inr ⟨b, e.trans e', hb, by omega⟩
          · exact .inr ⟨g.nx + 1, e, by omega, by omega⟩
  · have e4 : IntKind.wrap .i64 ((size : Int) - 1) = size - 1 := wrap_i64 (by omega) (by omega)
    refine ⟨a, c, ex, bs, ?_, ?_, ?_, o, x0, Nat.le_refl _, rfl, Nat.le_refl _, fun i _ _ => rfl, .inl rfl⟩ <;> simp only [↓STEP, go_sem, ↓reduceIte, Nat.reduceEqDiff, Nat.reduceLeDiff, Nat.reduceLT, Nat.reduceAdd, Nat.reduceSub, Nat.reduceMul, Int.reduceLT, Int.reduceLE, Int.reduceEq, Int.reduceAdd, Int.reduceSub, Int.reduceMul, Int.reduceNeg, Int.reduceToNat, reduceCtorEq, e4]
end Am
