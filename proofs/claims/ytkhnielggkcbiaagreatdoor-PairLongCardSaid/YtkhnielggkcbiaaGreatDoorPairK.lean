/- The law PairLong at its seat: a pair, whatever the heap; what is on its way is shipped. -/
import Derived.Test.YtkhnielggkcbiaaGreatDoorPairK0
namespace Go.Proofs.YtkhnielggkcbiaaGreatDoor.PairK
open Am
set_option linter.all false
set_option maxRecDepth 100000
/-- A pair's blocks: 'now': the clock; 'n': where they lie. -/
def PB (now : Int) (n : Nat) : List Blk := [(.rows 3 [[(.sl (some (n + 36, 0)) 39 39 false), (.b false), (.b false)]] false),
  (.rows 3 [[(.sl (some (n + 35, 0)) 69 69 false), (.b false), (.b false)]] false),
  (.rows 5 [[(.p (some (n + 17, 0, 0))), (.p (some (n + 33, 0, 0))), (.p (some (n + 0, 0, 0))), (.p (some (n + 1, 0, 0))), (.i .i64 now)]] false),
  (.rows 3 [[(.i .i64 4096), (.i .i64 0), (.sl none 0 0 true)]] false),
  (.rows 4 [[(.p (some (n + 3, 0, 0))), (.i .i64 4096), (.i .i64 4096), (.i .i64 4096)]] false),
  (.rows 4 [[(.i .i64 0), (.b false), (.b false), (.sl none 0 0 true)]] false),
  (.rows 3 [[(.sl none 0 0 true), (.sl none 0 0 true), (.i .i64 0)]] false),
  (.rows 3 [[(.i .i64 65535), (.i .i64 65535), (.i .i64 0)]] false),
  (.rows 1 [[(.i .i64 65535)]] false),
  (.rows 24 [[(.i .i64 1), (.p (some (n + 11, 0, 0))), (.i .i64 4096), (.i .i64 4294967295), (.i .i64 65535), (.i .i64 16384), (.i .i64 4294967295), (.p (some (n + 12, 0, 0))), (.p (some (n + 14, 0, 0))), (.p (some (n + 4, 0, 0))), (.p (some (n + 7, 0, 0))), (.p (some (n + 8, 0, 0))), (.p (some (n + 5, 0, 0))), (.p (some (n + 6, 0, 0))), (.sl (some (n + 15, 0)) 0 69 false), (.b false), (.b false), (.b false), (.b false), (.i .i64 1), (.i .i64 0), (.i .i64 (-1)), (.i .i64 (-1)), (.sl none 0 0 true)]] false),
  (.rows 5 [[(.i .i64 4096), (.i .i64 10), (.i .i64 65535), (.i .i64 16384), (.i .i64 1000)]] false),
  (.rows 12 [[(.sl (some (n + 10, 0)) 1 1 true), (.i .i64 4096), (.i .i64 10), (.i .i64 65535), (.i .i64 16384), (.i .i64 1000), (.i .i64 4096), (.i .i64 10), (.i .i64 65535), (.i .i64 16384), (.i .i64 1000), (.b false)]] false),
  (.rows 4 [[(.b false), (.i .i64 16384), (.sl none 0 0 true), (.i .i64 0)]] false),
  (.rows 3 [[(.i .i64 4096), (.i .i64 0), (.sl none 0 0 true)]] false),
  (.rows 4 [[(.p (some (n + 13, 0, 0))), (.i .i64 4096), (.b false), (.b false)]] false),
  (.bytes [0, 0, 0, 0, 0, 0, 0, 0, 0, 0, 0, 0, 0, 0, 0, 0, 0, 0, 0, 0, 0, 0, 0, 0, 0, 0, 0, 0, 0, 0, 0, 0, 0, 0, 0, 0, 0, 0, 0, 0, 0, 0, 0, 0, 0, 0, 0, 0, 0, 0, 0, 0, 0, 0, 0, 0, 0, 0, 0, 0, 0, 0, 0, 0, 0, 0, 0, 0, 0] false),
  (.rows 12 [[(.i .i64 0), (.b false), (.i .i64 0), (.b false), (.i .i64 0), (.b false), (.i .i64 0), (.b false), (.i .i64 0), (.b false), (.i .i64 0), (.b false)]] false),
  (.rows 23 [[(.i .i64 1), (.i .i64 0), (.i .i64 4096), (.i .i64 10), (.i .i64 65535), (.i .i64 16384), (.i .i64 1000), (.i .i64 0), (.i .i64 0), (.i .i64 0), (.i .i64 0), (.i .i64 0), (.i .i64 now), (.p (some (n + 9, 0, 0))), (.p (some (n + 18, 0, 0))), (.p (some (n + 16, 0, 0))), (.b true), (.i .i64 0), (.sl none 0 0 true), (.sl none 0 0 true), (.b false), (.sl none 0 0 true), (.sl none 0 0 true)]] false),
  (.rows 2 [[(.i .i64 1), (.i .i64 0)]] false),
  (.rows 3 [[(.i .i64 4096), (.i .i64 0), (.sl none 0 0 true)]] false),
  (.rows 4 [[(.p (some (n + 19, 0, 0))), (.i .i64 4096), (.i .i64 4096), (.i .i64 4096)]] false),
  (.rows 4 [[(.i .i64 0), (.b false), (.b false), (.sl none 0 0 true)]] false),
  (.rows 3 [[(.sl none 0 0 true), (.sl none 0 0 true), (.i .i64 0)]] false),
  (.rows 3 [[(.i .i64 65535), (.i .i64 65535), (.i .i64 0)]] false),
  (.rows 1 [[(.i .i64 65535)]] false),
  (.rows 24 [[(.i .i64 2), (.p (some (n + 27, 0, 0))), (.i .i64 4096), (.i .i64 4294967295), (.i .i64 65535), (.i .i64 16384), (.i .i64 4294967295), (.p (some (n + 28, 0, 0))), (.p (some (n + 30, 0, 0))), (.p (some (n + 20, 0, 0))), (.p (some (n + 23, 0, 0))), (.p (some (n + 24, 0, 0))), (.p (some (n + 21, 0, 0))), (.p (some (n + 22, 0, 0))), (.sl (some (n + 31, 0)) 0 39 false), (.b false), (.b false), (.b false), (.b false), (.i .i64 1), (.i .i64 0), (.i .i64 (-1)), (.i .i64 (-1)), (.sl none 0 0 true)]] false),
  (.rows 5 [[(.i .i64 4096), (.i .i64 10), (.i .i64 65535), (.i .i64 16384), (.i .i64 1000)]] false),
  (.rows 12 [[(.sl (some (n + 26, 0)) 1 1 true), (.i .i64 4096), (.i .i64 10), (.i .i64 65535), (.i .i64 16384), (.i .i64 1000), (.i .i64 4096), (.i .i64 10), (.i .i64 65535), (.i .i64 16384), (.i .i64 1000), (.b false)]] false),
  (.rows 4 [[(.b true), (.i .i64 16384), (.sl none 0 0 true), (.i .i64 0)]] false),
  (.rows 3 [[(.i .i64 4096), (.i .i64 0), (.sl none 0 0 true)]] false),
  (.rows 4 [[(.p (some (n + 29, 0, 0))), (.i .i64 4096), (.b false), (.b false)]] false),
  (.bytes [0, 0, 0, 0, 0, 0, 0, 0, 0, 0, 0, 0, 0, 0, 0, 0, 0, 0, 0, 0, 0, 0, 0, 0, 0, 0, 0, 0, 0, 0, 0, 0, 0, 0, 0, 0, 0, 0, 0] false),
  (.rows 12 [[(.i .i64 0), (.b false), (.i .i64 0), (.b false), (.i .i64 0), (.b false), (.i .i64 0), (.b false), (.i .i64 0), (.b false), (.i .i64 0), (.b false)]] false),
  (.rows 23 [[(.i .i64 2), (.i .i64 0), (.i .i64 4096), (.i .i64 10), (.i .i64 65535), (.i .i64 16384), (.i .i64 1000), (.i .i64 0), (.i .i64 0), (.i .i64 0), (.i .i64 0), (.i .i64 0), (.i .i64 now), (.p (some (n + 25, 0, 0))), (.p (some (n + 34, 0, 0))), (.p (some (n + 32, 0, 0))), (.b true), (.i .i64 0), (.sl none 0 0 true), (.sl none 0 0 true), (.b false), (.sl none 0 0 true), (.sl none 0 0 true)]] false),
  (.rows 2 [[(.i .i64 2), (.i .i64 0)]] false),
  (.bytes [80, 82, 73, 32, 42, 32, 72, 84, 84, 80, 47, 50, 46, 48, 13, 10, 13, 10, 83, 77, 13, 10, 13, 10, 0, 0, 36, 4, 0, 0, 0, 0, 0, 0, 1, 0, 0, 16, 0, 0, 2, 0, 0, 0, 0, 0, 3, 0, 0, 0, 10, 0, 4, 0, 0, 255, 255, 0, 5, 0, 0, 64, 0, 0, 6, 0, 0, 3, 232] false),
  (.bytes [0, 0, 30, 4, 0, 0, 0, 0, 0, 0, 1, 0, 0, 16, 0, 0, 3, 0, 0, 0, 10, 0, 4, 0, 0, 255, 255, 0, 5, 0, 0, 64, 0, 0, 6, 0, 0, 3, 232] false)]
theorem PB_len (now : Int) (n : Nat) : (PB now n).length = 37 := rfl
theorem PB_rel (now : Int) (m m' i : Nat) (x y : Blk) (hx : (PB now m)[i]? = some x) (hy : (PB now m')[i]? = some y) : x.rel (MkR m m' 37) y := by
  match i with
  | 0 => cases hx; cases hy; simp only [Blk.rel, rowsRel, V.rels, V.rel, and_true, true_and, MkR] <;> exact ⟨36, by omega, rfl, rfl⟩
  | 1 => cases hx; cases hy; simp only [Blk.rel, rowsRel, V.rels, V.rel, and_true, true_and, MkR] <;> exact ⟨35, by omega, rfl, rfl⟩
  | 2 => cases hx; cases hy; simp only [Blk.rel, rowsRel, V.rels, V.rel, and_true, true_and, MkR] <;> exact ⟨⟨17, by omega, rfl, rfl⟩, ⟨33, by omega, rfl, rfl⟩, ⟨0, by omega, rfl, rfl⟩, ⟨1, by omega, rfl, rfl⟩⟩
  | 3 => cases hx; cases hy; simp only [Blk.rel, rowsRel, V.rels, V.rel, and_true, true_and, MkR]
  | 4 => cases hx; cases hy; simp only [Blk.rel, rowsRel, V.rels, V.rel, and_true, true_and, MkR] <;> exact ⟨3, by omega, rfl, rfl⟩
  | 5 => cases hx; cases hy; simp only [Blk.rel, rowsRel, V.rels, V.rel, and_true, true_and, MkR]
  | 6 => cases hx; cases hy; simp only [Blk.rel, rowsRel, V.rels, V.rel, and_true, true_and, MkR]
  | 7 => cases hx; cases hy; simp only [Blk.rel, rowsRel, V.rels, V.rel, and_true, true_and, MkR]
  | 8 => cases hx; cases hy; simp only [Blk.rel, rowsRel, V.rels, V.rel, and_true, true_and, MkR]
  | 9 => cases hx; cases hy; simp only [Blk.rel, rowsRel, V.rels, V.rel, and_true, true_and, MkR] <;> exact ⟨⟨11, by omega, rfl, rfl⟩, ⟨12, by omega, rfl, rfl⟩, ⟨14, by omega, rfl, rfl⟩, ⟨4, by omega, rfl, rfl⟩, ⟨7, by omega, rfl, rfl⟩, ⟨8, by omega, rfl, rfl⟩, ⟨5, by omega, rfl, rfl⟩, ⟨6, by omega, rfl, rfl⟩, ⟨15, by omega, rfl, rfl⟩⟩
  | 10 => cases hx; cases hy; simp only [Blk.rel, rowsRel, V.rels, V.rel, and_true, true_and, MkR]
  | 11 => cases hx; cases hy; simp only [Blk.rel, rowsRel, V.rels, V.rel, and_true, true_and, MkR] <;> exact ⟨10, by omega, rfl, rfl⟩
  | 12 => cases hx; cases hy; simp only [Blk.rel, rowsRel, V.rels, V.rel, and_true, true_and, MkR]
  | 13 => cases hx; cases hy; simp only [Blk.rel, rowsRel, V.rels, V.rel, and_true, true_and, MkR]
  | 14 => cases hx; cases hy; simp only [Blk.rel, rowsRel, V.rels, V.rel, and_true, true_and, MkR] <;> exact ⟨13, by omega, rfl, rfl⟩
  | 15 => cases hx; cases hy; exact ⟨rfl, rfl⟩
  | 16 => cases hx; cases hy; simp only [Blk.rel, rowsRel, V.rels, V.rel, and_true, true_and, MkR]
  | 17 => cases hx; cases hy; simp only [Blk.rel, rowsRel, V.rels, V.rel, and_true, true_and, MkR] <;> exact ⟨⟨9, by omega, rfl, rfl⟩, ⟨18, by omega, rfl, rfl⟩, ⟨16, by omega, rfl, rfl⟩⟩
  | 18 => cases hx; cases hy; simp only [Blk.rel, rowsRel, V.rels, V.rel, and_true, true_and, MkR]
  | 19 => cases hx; cases hy; simp only [Blk.rel, rowsRel, V.rels, V.rel, and_true, true_and, MkR]
  | 20 => cases hx; cases hy; simp only [Blk.rel, rowsRel, V.rels, V.rel, and_true, true_and, MkR] <;> exact ⟨19, by omega, rfl, rfl⟩
  | 21 => cases hx; cases hy; simp only [Blk.rel, rowsRel, V.rels, V.rel, and_true, true_and, MkR]
  | 22 => cases hx; cases hy; simp only [Blk.rel, rowsRel, V.rels, V.rel, and_true, true_and, MkR]
  | 23 => cases hx; cases hy; simp only [Blk.rel, rowsRel, V.rels, V.rel, and_true, true_and, MkR]
  | 24 => cases hx; cases hy; simp only [Blk.rel, rowsRel, V.rels, V.rel, and_true, true_and, MkR]
  | 25 => cases hx; cases hy; simp only [Blk.rel, rowsRel, V.rels, V.rel, and_true, true_and, MkR] <;> exact ⟨⟨27, by omega, rfl, rfl⟩, ⟨28, by omega, rfl, rfl⟩, ⟨30, by omega, rfl, rfl⟩, ⟨20, by omega, rfl, rfl⟩, ⟨23, by omega, rfl, rfl⟩, ⟨24, by omega, rfl, rfl⟩, ⟨21, by omega, rfl, rfl⟩, ⟨22, by omega, rfl, rfl⟩, ⟨31, by omega, rfl, rfl⟩⟩
  | 26 => cases hx; cases hy; simp only [Blk.rel, rowsRel, V.rels, V.rel, and_true, true_and, MkR]
  | 27 => cases hx; cases hy; simp only [Blk.rel, rowsRel, V.rels, V.rel, and_true, true_and, MkR] <;> exact ⟨26, by omega, rfl, rfl⟩
  | 28 => cases hx; cases hy; simp only [Blk.rel, rowsRel, V.rels, V.rel, and_true, true_and, MkR]
  | 29 => cases hx; cases hy; simp only [Blk.rel, rowsRel, V.rels, V.rel, and_true, true_and, MkR]
  | 30 => cases hx; cases hy; simp only [Blk.rel, rowsRel, V.rels, V.rel, and_true, true_and, MkR] <;> exact ⟨29, by omega, rfl, rfl⟩
  | 31 => cases hx; cases hy; exact ⟨rfl, rfl⟩
  | 32 => cases hx; cases hy; simp only [Blk.rel, rowsRel, V.rels, V.rel, and_true, true_and, MkR]
  | 33 => cases hx; cases hy; simp only [Blk.rel, rowsRel, V.rels, V.rel, and_true, true_and, MkR] <;> exact ⟨⟨25, by omega, rfl, rfl⟩, ⟨34, by omega, rfl, rfl⟩, ⟨32, by omega, rfl, rfl⟩⟩
  | 34 => cases hx; cases hy; simp only [Blk.rel, rowsRel, V.rels, V.rel, and_true, true_and, MkR]
  | 35 => cases hx; cases hy; exact ⟨rfl, rfl⟩
  | 36 => cases hx; cases hy; exact ⟨rfl, rfl⟩
  | i + 37 => cases hx
def vPlain : V := .agg [.i .i64 4096, .i .i64 10, .i .i64 65535, .i .i64 16384, .i .i64 1000, .i .i64 4096, .i .i64 10, .i .i64 65535, .i .i64 16384, .i .i64 1000, .i .i64 0, .i .i64 0, .i .i64 0, .i .i64 0, .i .i64 0, .i .i64 0, .i .i64 0, .i .i64 0, .i .i64 0, .i .i64 0, .i .i64 0]
def vNew (n : Nat) : V := .tup [.p (some (n + 2, 0, 0)), .i .i64 0]
noncomputable def isV (w v : V) (h : H) : Bool := match w, v with | .agg vs, .agg ws => relsB (fun a b => Nat.beq a b) vs ws | v, w => relB (fun a b => Nat.beq a b) v w
theorem plainK : runK prB 3000 (.fn 5) [] h0 (isV vPlain) = true := by kernel_rfl
theorem plainX : ExtFor Tryz.prog 5 (xConst vPlain) := by
  obtain ⟨v, h', hv, hk⟩ := runK_true prB 3000 _ _ _ _ plainK
  have e : v = vPlain := by
    unfold isV vPlain at hk
    cases v <;> first | (cases hk; done) | skip
    rename_i ws
    have := relsB_yes hk
    have key : ∀ (vs ws : List V), V.rels (fun a b => Nat.beq a b = true) vs ws → (∀ v ∈ vs, ∃ n, v = V.i .i64 n) → ws = vs := by
      intro vs
      induction vs with
      | nil => intro ws h _; cases ws with | nil => rfl | cons _ _ => cases h
      | cons v vs ih =>
        intro ws h hv
        cases ws with
        | nil => cases h
        | cons w ws =>
          obtain ⟨n, rfl⟩ := hv v (by simp)
          rw [ih ws h.2 fun v hm => hv v (by simp [hm])]
          congr 1
          have h1 := h.1
          cases w <;> first | (cases h1; done) | (obtain ⟨rfl, rfl⟩ := h1; rfl)
    rw [key _ ws this (by simp)]; rfl
  rw [e] at hv
  exact ExtFor.closed okB (by kernel_rfl) hv rfl
theorem newK : runK prB 3000 (.fn 8) [vPlain] ⟨4096, .e⟩ (swept ⟨4096, .e⟩ (pushAll ⟨4096, .e⟩ (PB 0 4096)) [4097, 4098, 4099, 4111, 4112, 4113, 4114, 4115, 4116, 4117, 4121, 4122, 4123, 4124, 4125, 4221, 4222, 4223, 4224, 4234, 4235, 4236, 4237, 4238, 4239, 4240, 4244, 4245, 4246, 4247, 4248, 4330, 4331, 4332, 4333, 4337, 4341] (vNew 4096)) = true := by kernel_rfl
theorem newX : ExtFor Tryz.prog 8 (gMake [vPlain] vNew (PB 0)) := ExtFor.make (n := 3000) (k := 37) okB (by kernel_rfl) rfl newK (fun _ => rfl) (fun m i x y hx hy => PB_rel 0 m 4096 i x y hx hy) (fun m => ⟨⟨⟨2, by omega, rfl, rfl⟩, rfl, rfl⟩, ⟨rfl, rfl⟩, trivial⟩)
def vBad : V := .agg [.i .i64 4096, .i .i64 10, .i .i64 65535, .i .i64 5, .i .i64 1000, .i .i64 4096, .i .i64 10, .i .i64 65535, .i .i64 16384, .i .i64 1000, .i .i64 0, .i .i64 0, .i .i64 0, .i .i64 0, .i .i64 0, .i .i64 0, .i .i64 0, .i .i64 0, .i .i64 0, .i .i64 0, .i .i64 0]
theorem badK : runK prB 3000 (.fn 8) [vBad] ⟨4096, .e⟩ (swept ⟨4096, .e⟩ (pushAll ⟨4096, .e⟩ []) [] (.tup [.p none, .i .i64 1])) = true := by kernel_rfl
theorem badX : ExtFor Tryz.prog 8 (gMake [vBad] (fun _ => .tup [.p none, .i .i64 1]) (fun _ => [])) := ExtFor.make (n := 3000) (k := 0) okB (by kernel_rfl) rfl badK (fun _ => rfl) (fun m i x y hx => by cases hx) (fun m => ⟨trivial, ⟨rfl, rfl⟩, trivial⟩)
theorem shipK (now : Int) (K : List (Option Blk) → V → Bool) : runK prB 3000 (.fn 17) [.p (some (4096 + 2, 0, 0))] (pushAll ⟨4096, .e⟩ (PB now 4096)) (fun v g => K (lookN g.tr 37 4096) v) = K ((PB now 4096).map some) .un := by kernel_rfl
def ShipR : Rl := ShiftR (D := Int) (fun _ => True) (fun _ n => [.p (some (n + 2, 0, 0))]) PB (fun _ _ => .un) PB
theorem shipX : ExtFor Tryz.prog 17 (gRl ShipR) := by
  refine ExtFor.shift (k := 37) (n := 3000) okB (by kernel_rfl) (fun d _ => ?_) PB_len PB_len PB_rel PB_rel (fun d m m' => ?_) (fun d m m' => trivial)
  · obtain ⟨v1, h1, hr, rfl, hs⟩ := of_lookN (PB_len d 4096) (shipK d)
    refine ⟨_, h1, hr, Abs.back (fun b x hx => ?_) trivial⟩
    rw [pushAll_get, PB_len] at hx
    split at hx
    · rename_i hlt
      have := hs _ _ hx
      rw [show 4096 + (b - (⟨4096, .e⟩ : H).nx) = b from by have : (⟨4096, .e⟩ : H).nx = 4096 := rfl; omega] at this
      exact this
    · cases hx
  · exact ⟨⟨⟨2, by omega, rfl, rfl⟩, rfl, rfl⟩, trivial⟩
end Go.Proofs.YtkhnielggkcbiaaGreatDoor.PairK
