/- What strings.ContainsAny answers, of the three bytes that a value may not hold. -/
import Derived.Test.YtibmhhdgcbaofaaDoorField2
namespace Am
set_option linter.unusedVariables false
set_option linter.unusedSimpArgs false
set_option maxRecDepth 10000
set_option maxHeartbeats 4000000
variable {pr : Prog}

def validR (n : Int) : Bool := (decide (0 ≤ n) && decide (n < 55296)) || (decide (57343 < n) && decide (n ≤ 1114111))
def gVR (as : List V) (h : H) : Option (V × H) :=
  match as with
  | [.i .i32 n] => some (.b (validR n), h)
  | _ => none
theorem gVR_eq (n : Int) (h : H) : gVR [.i .i32 n] h = some (.b (validR n), h) := rfl
theorem validRune_ok : OkF pr c_unicode_utf8_ValidRune gVR := by
  intro as h v h' hg
  unfold gVR at hg
  split at hg
  · rename_i n
    cases hg
    unfold wpF c_unicode_utf8_ValidRune
    refine ⟨by simp, ?_⟩
    by_cases a : 0 ≤ n
    · by_cases b : n < 55296
      · simp only [↓STEP, go_sem, ↓reduceIte, Nat.reduceEqDiff, Nat.reduceLeDiff, Nat.reduceLT, Nat.reduceAdd, Nat.reduceSub, Nat.reduceMul, Int.reduceLT, Int.reduceLE, Int.reduceEq, Int.reduceAdd, Int.reduceSub, Int.reduceMul, Int.reduceNeg, Int.reduceToNat, reduceCtorEq, a, b]
        exact Abs.eq (by simp [validR, a, b]) rfl
      · by_cases c : 57343 < n
        · by_cases d : n ≤ 1114111
          · simp only [↓STEP, go_sem, ↓reduceIte, Nat.reduceEqDiff, Nat.reduceLeDiff, Nat.reduceLT, Nat.reduceAdd, Nat.reduceSub, Nat.reduceMul, Int.reduceLT, Int.reduceLE, Int.reduceEq, Int.reduceAdd, Int.reduceSub, Int.reduceMul, Int.reduceNeg, Int.reduceToNat, reduceCtorEq, a, b, c, d]
            exact Abs.eq (by simp [validR, c, d]) rfl
          · simp only [↓STEP, go_sem, ↓reduceIte, Nat.reduceEqDiff, Nat.reduceLeDiff, Nat.reduceLT, Nat.reduceAdd, Nat.reduceSub, Nat.reduceMul, Int.reduceLT, Int.reduceLE, Int.reduceEq, Int.reduceAdd, Int.reduceSub, Int.reduceMul, Int.reduceNeg, Int.reduceToNat, reduceCtorEq, a, b, c, d]
            exact Abs.eq (by simp [validR, b, d]) rfl
        · simp only [↓STEP, go_sem, ↓reduceIte, Nat.reduceEqDiff, Nat.reduceLeDiff, Nat.reduceLT, Nat.reduceAdd, Nat.reduceSub, Nat.reduceMul, Int.reduceLT, Int.reduceLE, Int.reduceEq, Int.reduceAdd, Int.reduceSub, Int.reduceMul, Int.reduceNeg, Int.reduceToNat, reduceCtorEq, a, b, c]
          exact Abs.eq (by simp [validR, b, c]) rfl
    · have b : n < 55296 := by omega
      have c : ¬ 57343 < n := by omega
      simp only [↓STEP, go_sem, ↓reduceIte, Nat.reduceEqDiff, Nat.reduceLeDiff, Nat.reduceLT, Nat.reduceAdd, Nat.reduceSub, Nat.reduceMul, Int.reduceLT, Int.reduceLE, Int.reduceEq, Int.reduceAdd, Int.reduceSub, Int.reduceMul, Int.reduceNeg, Int.reduceToNat, reduceCtorEq, a, b, c]
      exact Abs.eq (by simp [validR, a, c]) rfl
  · cases hg

def irAns (c : Int) : Int := if c = 0 then 0 else if c = 10 then 1 else if c = 13 then 2 else -1
def gIR (as : List V) (h : H) : Option (V × H) :=
  match as with
  | [.s cs, .i .i32 c] => if cs = [0, 10, 13] ∧ c ≤ 1114111 then some (.i .i64 (irAns c), h) else none
  | _ => none
theorem fIdx3 (c : Int) (h0 : 0 ≤ c) (h1 : c < 128) : fIdx [0, 10, 13] (Go.IntKind.wrap .u8 c).toNat.toUInt8 = irAns c := by
  obtain ⟨n, rfl⟩ := Int.eq_ofNat_of_zero_le h0
  have : n < 128 := by omega
  have key : ∀ n : Fin 128, fIdx [0, 10, 13] (Go.IntKind.wrap .u8 ((n.val : Nat) : Int)).toNat.toUInt8 = irAns ((n.val : Nat) : Int) := by decide +kernel
  exact key ⟨n, this⟩
theorem enc_last (c : Int) (h1 : 128 ≤ c) (hv : validR c = true) : ∃ L b, (Go.Utf8.encode c).data.toList.length = L + 1 ∧ 1 ≤ L ∧ L ≤ 3 ∧ (Go.Utf8.encode c).data.toList[L]? = some b ∧ 128 ≤ b.toNat := by
  have hvv : Go.Utf8.valid c = true := by simp [validR] at hv; simp [Go.Utf8.valid]; omega
  obtain ⟨n, rfl⟩ := Int.eq_ofNat_of_zero_le (a := c) (by omega)
  have hb : ∀ m : Nat, 128 ≤ (UInt8.ofNat (128 + m % 64)).toNat := fun m => by
    have : 128 + m % 64 < 256 := by omega
    simp [UInt8.toNat_ofNat, Nat.mod_eq_of_lt this]
  unfold Go.Utf8.encode
  rw [if_pos hvv]
  simp only [Int.toNat_natCast]
  rw [if_neg (by omega)]
  split
  · exact ⟨1, _, rfl, by omega, by omega, rfl, hb _⟩
  · split
    · exact ⟨2, _, rfl, by omega, by omega, rfl, hb _⟩
    · exact ⟨3, _, rfl, by omega, by omega, rfl, hb _⟩

theorem indexRune_ok {k kv : Nat} (hi : pr.ext k = some xIndexByte) (hv : pr.ext kv = some gVR) (kx ky : Nat) : OkF pr (c_strings_IndexRune k kv kx ky) gIR := by
  intro as h v h' hg
  unfold gIR at hg
  split at hg
  · rename_i cs c
    split at hg
    · rename_i hcs
      obtain ⟨rfl, hmax⟩ := hcs
      cases hg
      have hc := @wpCall_ext pr k _ hi
      have hcv := @wpCall_ext pr kv _ hv
      unfold wpF c_strings_IndexRune
      refine ⟨by simp, ?_⟩
      by_cases h0 : 0 ≤ c
      · by_cases h1 : c < 128
        · have hx : xIndexByte [.s [0, 10, 13], .i .u8 (Go.IntKind.wrap .u8 c)] h = some (.i .i64 (irAns c), h) := by
            simp only [xIndexByte]; rw [fIdx3 c h0 h1]
          simp only [↓STEP, go_sem, ↓reduceIte, Nat.reduceEqDiff, Nat.reduceLeDiff, Nat.reduceLT, Nat.reduceAdd, Nat.reduceSub, Nat.reduceMul, Int.reduceLT, Int.reduceLE, Int.reduceEq, Int.reduceAdd, Int.reduceSub, Int.reduceMul, Int.reduceNeg, Int.reduceToNat, reduceCtorEq, h0, h1, hc, hx]
          exact Abs.refl
        · have hne : irAns c = -1 := by unfold irAns; rw [if_neg (by omega), if_neg (by omega), if_neg (by omega)]
          by_cases h2 : c = 65533
          · subst h2
            have d0 : Go.Utf8.decode ⟨[0, 10, 13].toArray⟩ 0 = (0, 1) := by decide +kernel
            have d1 : Go.Utf8.decode ⟨[0, 10, 13].toArray⟩ 1 = (10, 1) := by decide +kernel
            have d2 : Go.Utf8.decode ⟨[0, 10, 13].toArray⟩ 2 = (13, 1) := by decide +kernel
            simp only [↓STEP, go_sem, ↓reduceIte, Nat.reduceEqDiff, Nat.reduceLeDiff, Nat.reduceLT, Nat.reduceAdd, Nat.reduceSub, Nat.reduceMul, Int.reduceLT, Int.reduceLE, Int.reduceEq, Int.reduceAdd, Int.reduceSub, Int.reduceMul, Int.reduceNeg, Int.reduceToNat, reduceCtorEq]
            refine wpA_loop ?_
            simp only [↓STEP, go_sem, ↓reduceIte, Nat.reduceEqDiff, Nat.reduceLeDiff, Nat.reduceLT, Nat.reduceAdd, Nat.reduceSub, Nat.reduceMul, Int.reduceLT, Int.reduceLE, Int.reduceEq, Int.reduceAdd, Int.reduceSub, Int.reduceMul, Int.reduceNeg, Int.reduceToNat, reduceCtorEq, d0]
            refine wpA_loop ?_
            simp only [↓STEP, go_sem, ↓reduceIte, Nat.reduceEqDiff, Nat.reduceLeDiff, Nat.reduceLT, Nat.reduceAdd, Nat.reduceSub, Nat.reduceMul, Int.reduceLT, Int.reduceLE, Int.reduceEq, Int.reduceAdd, Int.reduceSub, Int.reduceMul, Int.reduceNeg, Int.reduceToNat, reduceCtorEq, d1]
            refine wpA_loop ?_
            simp only [↓STEP, go_sem, ↓reduceIte, Nat.reduceEqDiff, Nat.reduceLeDiff, Nat.reduceLT, Nat.reduceAdd, Nat.reduceSub, Nat.reduceMul, Int.reduceLT, Int.reduceLE, Int.reduceEq, Int.reduceAdd, Int.reduceSub, Int.reduceMul, Int.reduceNeg, Int.reduceToNat, reduceCtorEq, d2]
            refine wpA_loop ?_
            simp only [↓STEP, go_sem, ↓reduceIte, Nat.reduceEqDiff, Nat.reduceLeDiff, Nat.reduceLT, Nat.reduceAdd, Nat.reduceSub, Nat.reduceMul, Int.reduceLT, Int.reduceLE, Int.reduceEq, Int.reduceAdd, Int.reduceSub, Int.reduceMul, Int.reduceNeg, Int.reduceToNat, reduceCtorEq]
            exact Abs.out rfl rfl (by (repeat (first | exact Kept.refl | apply Kept.push | refine Kept.kill ?_ (by omega) | refine Kept.set ?_ (by omega))))
          · cases h3 : validR c
            · have hx := gVR_eq c h
              simp only [↓STEP, go_sem, ↓reduceIte, Nat.reduceEqDiff, Nat.reduceLeDiff, Nat.reduceLT, Nat.reduceAdd, Nat.reduceSub, Nat.reduceMul, Int.reduceLT, Int.reduceLE, Int.reduceEq, Int.reduceAdd, Int.reduceSub, Int.reduceMul, Int.reduceNeg, Int.reduceToNat, reduceCtorEq, h0, h1, h2, hcv, hx, h3]
              rw [hne]
              exact Abs.refl
            · have hx := gVR_eq c h
              obtain ⟨L, b, hL, h1L, h3L, hb, hb128⟩ := enc_last c (by omega) h3
              have w1 : Go.IntKind.wrap .i64 1 = 1 := by decide
              have w2 : Go.IntKind.wrap .i64 2 = 2 := by decide
              have w3 : Go.IntKind.wrap .i64 3 = 3 := by decide
              have nb : ∀ x : UInt8, x.toNat < 128 → ¬ ((x.toNat : Int) = (b.toNat : Int)) := fun x hx => by omega
              have n1 : ¬ (((10 : UInt8).toNat : Nat) : Int) = (b.toNat : Int) := nb 10 (by decide)
              have n2 : ¬ (((13 : UInt8).toNat : Nat) : Int) = (b.toNat : Int) := nb 13 (by decide)
              have x1 : xIndexByte [.s [13], .i .u8 (b.toNat : Int)] h = some (.i .i64 (-1), h) := by
                rw [xIndexByte_eq]
                have : (13 : UInt8) ≠ b := by rintro rfl; simp at hb128
                simp [fIdx, List.findIdx?_cons, this]
              have x2 : xIndexByte [.s [], .i .u8 (b.toNat : Int)] h = some (.i .i64 (-1), h) := by
                rw [xIndexByte_eq]; rfl
              generalize hbs : (Go.Utf8.encode c).data.toList = bs at hL hb
              have hL3 : L = 1 ∨ L = 2 ∨ L = 3 := by omega
              rcases hL3 with rfl | rfl | rfl
              · simp only [↓STEP, go_sem, ↓reduceIte, Nat.reduceEqDiff, Nat.reduceLeDiff, Nat.reduceLT, Nat.reduceAdd, Nat.reduceSub, Nat.reduceMul, Int.reduceLT, Int.reduceLE, Int.reduceEq, Int.reduceAdd, Int.reduceSub, Int.reduceMul, Int.reduceNeg, Int.reduceToNat, reduceCtorEq, h0, h1, h2, hcv, hx, h3, hbs, hL, w1]
                refine wpA_loop ?_
                simp only [↓STEP, go_sem, ↓reduceIte, Nat.reduceEqDiff, Nat.reduceLeDiff, Nat.reduceLT, Nat.reduceAdd, Nat.reduceSub, Nat.reduceMul, Int.reduceLT, Int.reduceLE, Int.reduceEq, Int.reduceAdd, Int.reduceSub, Int.reduceMul, Int.reduceNeg, Int.reduceToNat, reduceCtorEq, hb, n1, hc, x1, w1, w2]
                rw [hne]
                exact Abs.refl
              · simp only [↓STEP, go_sem, ↓reduceIte, Nat.reduceEqDiff, Nat.reduceLeDiff, Nat.reduceLT, Nat.reduceAdd, Nat.reduceSub, Nat.reduceMul, Int.reduceLT, Int.reduceLE, Int.reduceEq, Int.reduceAdd, Int.reduceSub, Int.reduceMul, Int.reduceNeg, Int.reduceToNat, reduceCtorEq, h0, h1, h2, hcv, hx, h3, hbs, hL, w2]
                refine wpA_loop ?_
                simp only [↓STEP, go_sem, ↓reduceIte, Nat.reduceEqDiff, Nat.reduceLeDiff, Nat.reduceLT, Nat.reduceAdd, Nat.reduceSub, Nat.reduceMul, Int.reduceLT, Int.reduceLE, Int.reduceEq, Int.reduceAdd, Int.reduceSub, Int.reduceMul, Int.reduceNeg, Int.reduceToNat, reduceCtorEq, hb, n2, hc, x2, w2, w3]
                rw [hne]
                exact Abs.refl
              · simp only [↓STEP, go_sem, ↓reduceIte, Nat.reduceEqDiff, Nat.reduceLeDiff, Nat.reduceLT, Nat.reduceAdd, Nat.reduceSub, Nat.reduceMul, Int.reduceLT, Int.reduceLE, Int.reduceEq, Int.reduceAdd, Int.reduceSub, Int.reduceMul, Int.reduceNeg, Int.reduceToNat, reduceCtorEq, h0, h1, h2, hcv, hx, h3, hbs, hL, w3]
                refine wpA_loop ?_
                simp only [↓STEP, go_sem, ↓reduceIte, Nat.reduceEqDiff, Nat.reduceLeDiff, Nat.reduceLT, Nat.reduceAdd, Nat.reduceSub, Nat.reduceMul, Int.reduceLT, Int.reduceLE, Int.reduceEq, Int.reduceAdd, Int.reduceSub, Int.reduceMul, Int.reduceNeg, Int.reduceToNat, reduceCtorEq]
                rw [hne]
                exact Abs.refl
      · have hne : irAns c = -1 := by unfold irAns; rw [if_neg (by omega), if_neg (by omega), if_neg (by omega)]
        have h2 : ¬ c = 65533 := by omega
        have h3 : validR c = false := by simp [validR]; omega
        have hx := gVR_eq c h
        simp only [↓STEP, go_sem, ↓reduceIte, Nat.reduceEqDiff, Nat.reduceLeDiff, Nat.reduceLT, Nat.reduceAdd, Nat.reduceSub, Nat.reduceMul, Int.reduceLT, Int.reduceLE, Int.reduceEq, Int.reduceAdd, Int.reduceSub, Int.reduceMul, Int.reduceNeg, Int.reduceToNat, reduceCtorEq, h0, h2, hcv, hx, h3]
        rw [hne]
        exact Abs.refl
    · cases hg
  · cases hg
end Am
