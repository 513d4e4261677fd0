/- The law EndKeep at its seat: bytes are taken, the other end is asked: run by the kernel. -/
import Derived.Test.YtfabolagjlhdpaaGreatEndK2
import Derived.Test.YtfabolagjlhdpaaGreatEnd13
import Derived.Test.YtfabolagjlhdpaaGreatEnd12
namespace Go.Proofs.YtfabolagjlhdpaaGreat.EndK
open Am
set_option linter.all false
set_option maxRecDepth 100000
def cT1 (n : Nat) : List Blk := [(.rows 3 [[(.i .i64 4096), (.i .i64 0), (.sl none 0 0 true)]] false),
  (.rows 4 [[(.p (some (n + 0, 0, 0))), (.i .i64 4096), (.i .i64 4096), (.i .i64 4096)]] false),
  (.rows 4 [[(.i .i64 0), (.b false), (.b false), (.sl none 0 0 true)]] false),
  (.rows 3 [[(.sl none 0 0 true), (.sl none 0 0 true), (.i .i64 0)]] false),
  (.rows 3 [[(.i .i64 65535), (.i .i64 65535), (.i .i64 0)]] false),
  (.rows 1 [[(.i .i64 65535)]] false),
  (.rows 24 [[(.i .i64 1), (.p (some (n + 8, 0, 0))), (.i .i64 4096), (.i .i64 4294967295), (.i .i64 65535), (.i .i64 16384), (.i .i64 4294967295), (.p (some (n + 9, 0, 0))), (.p (some (n + 11, 0, 0))), (.p (some (n + 1, 0, 0))), (.p (some (n + 4, 0, 0))), (.p (some (n + 5, 0, 0))), (.p (some (n + 2, 0, 0))), (.p (some (n + 3, 0, 0))), (.sl (some (n + 12, 0)) 0 69 false), (.b false), (.b false), (.b false), (.b false), (.i .i64 1), (.i .i64 0), (.i .i64 (-1)), (.i .i64 (-1)), (.sl none 0 0 true)]] false),
  (.rows 5 [[(.i .i64 4096), (.i .i64 10), (.i .i64 65535), (.i .i64 16384), (.i .i64 1000)]] false),
  (.rows 12 [[(.sl (some (n + 7, 0)) 1 1 true), (.i .i64 4096), (.i .i64 10), (.i .i64 65535), (.i .i64 16384), (.i .i64 1000), (.i .i64 4096), (.i .i64 10), (.i .i64 65535), (.i .i64 16384), (.i .i64 1000), (.b false)]] false),
  (.rows 4 [[(.b false), (.i .i64 16384), (.sl none 0 0 true), (.i .i64 0)]] false),
  (.rows 3 [[(.i .i64 4096), (.i .i64 0), (.sl none 0 0 true)]] false),
  (.rows 4 [[(.p (some (n + 10, 0, 0))), (.i .i64 4096), (.b false), (.b false)]] false),
  (.bytes [0, 0, 0, 0, 0, 0, 0, 0, 0, 0, 0, 0, 0, 0, 0, 0, 0, 0, 0, 0, 0, 0, 0, 0, 0, 0, 0, 0, 0, 0, 0, 0, 0, 0, 0, 0, 0, 0, 0, 0, 0, 0, 0, 0, 0, 0, 0, 0, 0, 0, 0, 0, 0, 0, 0, 0, 0, 0, 0, 0, 0, 0, 0, 0, 0, 0, 0, 0, 0] false)]
theorem relcT1 (m i : Nat) (x : Blk) (hx : (cT1 m)[i]? = some x) : x.rel (MkR m m 13) x := by
  match i with
  | 0 => cases hx; simp only [Blk.rel, rowsRel, V.rels, V.rel, and_true, true_and, MkR]
  | 1 => cases hx; simp only [Blk.rel, rowsRel, V.rels, V.rel, and_true, true_and, MkR] <;> exact ⟨0, by omega, rfl, rfl⟩
  | 2 => cases hx; simp only [Blk.rel, rowsRel, V.rels, V.rel, and_true, true_and, MkR]
  | 3 => cases hx; simp only [Blk.rel, rowsRel, V.rels, V.rel, and_true, true_and, MkR]
  | 4 => cases hx; simp only [Blk.rel, rowsRel, V.rels, V.rel, and_true, true_and, MkR]
  | 5 => cases hx; simp only [Blk.rel, rowsRel, V.rels, V.rel, and_true, true_and, MkR]
  | 6 => cases hx; simp only [Blk.rel, rowsRel, V.rels, V.rel, and_true, true_and, MkR] <;> exact ⟨⟨8, by omega, rfl, rfl⟩, ⟨9, by omega, rfl, rfl⟩, ⟨11, by omega, rfl, rfl⟩, ⟨1, by omega, rfl, rfl⟩, ⟨4, by omega, rfl, rfl⟩, ⟨5, by omega, rfl, rfl⟩, ⟨2, by omega, rfl, rfl⟩, ⟨3, by omega, rfl, rfl⟩, ⟨12, by omega, rfl, rfl⟩⟩
  | 7 => cases hx; simp only [Blk.rel, rowsRel, V.rels, V.rel, and_true, true_and, MkR]
  | 8 => cases hx; simp only [Blk.rel, rowsRel, V.rels, V.rel, and_true, true_and, MkR] <;> exact ⟨7, by omega, rfl, rfl⟩
  | 9 => cases hx; simp only [Blk.rel, rowsRel, V.rels, V.rel, and_true, true_and, MkR]
  | 10 => cases hx; simp only [Blk.rel, rowsRel, V.rels, V.rel, and_true, true_and, MkR]
  | 11 => cases hx; simp only [Blk.rel, rowsRel, V.rels, V.rel, and_true, true_and, MkR] <;> exact ⟨10, by omega, rfl, rfl⟩
  | 12 => cases hx; simp only [Blk.rel, rowsRel, V.rels, V.rel, and_true, true_and, MkR]
  | i + 13 => cases hx
def cP1 (n : Nat) : List Blk := [(.rows 3 [[(.i .i64 4096), (.i .i64 0), (.sl none 0 0 true)]] false),
  (.rows 4 [[(.p (some (n + 0, 0, 0))), (.i .i64 4096), (.i .i64 4096), (.i .i64 4096)]] false),
  (.rows 4 [[(.i .i64 0), (.b false), (.b false), (.sl none 0 0 true)]] false),
  (.rows 3 [[(.sl none 0 0 true), (.sl none 0 0 true), (.i .i64 0)]] false),
  (.rows 3 [[(.i .i64 65535), (.i .i64 65535), (.i .i64 0)]] false),
  (.rows 1 [[(.i .i64 65535)]] false),
  (.rows 24 [[(.i .i64 1), (.p (some (n + 8, 0, 0))), (.i .i64 4096), (.i .i64 4294967295), (.i .i64 65535), (.i .i64 16384), (.i .i64 4294967295), (.p (some (n + 9, 0, 0))), (.p (some (n + 11, 0, 0))), (.p (some (n + 1, 0, 0))), (.p (some (n + 4, 0, 0))), (.p (some (n + 5, 0, 0))), (.p (some (n + 2, 0, 0))), (.p (some (n + 3, 0, 0))), (.sl (some (n + 12, 0)) 17 69 false), (.b false), (.b false), (.b false), (.b false), (.i .i64 1), (.i .i64 0), (.i .i64 (-1)), (.i .i64 (-1)), (.sl none 0 0 true)]] false),
  (.rows 5 [[(.i .i64 4096), (.i .i64 10), (.i .i64 65535), (.i .i64 16384), (.i .i64 1000)]] false),
  (.rows 12 [[(.sl (some (n + 7, 0)) 1 1 true), (.i .i64 4096), (.i .i64 10), (.i .i64 65535), (.i .i64 16384), (.i .i64 1000), (.i .i64 4096), (.i .i64 10), (.i .i64 65535), (.i .i64 16384), (.i .i64 1000), (.b false)]] false),
  (.rows 4 [[(.b false), (.i .i64 16384), (.sl none 0 0 true), (.i .i64 0)]] false),
  (.rows 3 [[(.i .i64 4096), (.i .i64 0), (.sl none 0 0 true)]] false),
  (.rows 4 [[(.p (some (n + 10, 0, 0))), (.i .i64 4096), (.b false), (.b false)]] false),
  (.bytes [0, 0, 8, 6, 0, 0, 0, 0, 0, 107, 101, 101, 112, 97, 108, 105, 118, 0, 0, 0, 0, 0, 0, 0, 0, 0, 0, 0, 0, 0, 0, 0, 0, 0, 0, 0, 0, 0, 0, 0, 0, 0, 0, 0, 0, 0, 0, 0, 0, 0, 0, 0, 0, 0, 0, 0, 0, 0, 0, 0, 0, 0, 0, 0, 0, 0, 0, 0, 0] false)]
theorem relcP1 (m i : Nat) (x : Blk) (hx : (cP1 m)[i]? = some x) : x.rel (MkR m m 13) x := by
  match i with
  | 0 => cases hx; simp only [Blk.rel, rowsRel, V.rels, V.rel, and_true, true_and, MkR]
  | 1 => cases hx; simp only [Blk.rel, rowsRel, V.rels, V.rel, and_true, true_and, MkR] <;> exact ⟨0, by omega, rfl, rfl⟩
  | 2 => cases hx; simp only [Blk.rel, rowsRel, V.rels, V.rel, and_true, true_and, MkR]
  | 3 => cases hx; simp only [Blk.rel, rowsRel, V.rels, V.rel, and_true, true_and, MkR]
  | 4 => cases hx; simp only [Blk.rel, rowsRel, V.rels, V.rel, and_true, true_and, MkR]
  | 5 => cases hx; simp only [Blk.rel, rowsRel, V.rels, V.rel, and_true, true_and, MkR]
  | 6 => cases hx; simp only [Blk.rel, rowsRel, V.rels, V.rel, and_true, true_and, MkR] <;> exact ⟨⟨8, by omega, rfl, rfl⟩, ⟨9, by omega, rfl, rfl⟩, ⟨11, by omega, rfl, rfl⟩, ⟨1, by omega, rfl, rfl⟩, ⟨4, by omega, rfl, rfl⟩, ⟨5, by omega, rfl, rfl⟩, ⟨2, by omega, rfl, rfl⟩, ⟨3, by omega, rfl, rfl⟩, ⟨12, by omega, rfl, rfl⟩⟩
  | 7 => cases hx; simp only [Blk.rel, rowsRel, V.rels, V.rel, and_true, true_and, MkR]
  | 8 => cases hx; simp only [Blk.rel, rowsRel, V.rels, V.rel, and_true, true_and, MkR] <;> exact ⟨7, by omega, rfl, rfl⟩
  | 9 => cases hx; simp only [Blk.rel, rowsRel, V.rels, V.rel, and_true, true_and, MkR]
  | 10 => cases hx; simp only [Blk.rel, rowsRel, V.rels, V.rel, and_true, true_and, MkR]
  | 11 => cases hx; simp only [Blk.rel, rowsRel, V.rels, V.rel, and_true, true_and, MkR] <;> exact ⟨10, by omega, rfl, rfl⟩
  | 12 => cases hx; simp only [Blk.rel, rowsRel, V.rels, V.rel, and_true, true_and, MkR]
  | i + 13 => cases hx
def cT2 (n : Nat) : List Blk := [(.rows 3 [[(.i .i64 4096), (.i .i64 0), (.sl none 0 0 true)]] false),
  (.rows 4 [[(.p (some (n + 0, 0, 0))), (.i .i64 4096), (.i .i64 4096), (.i .i64 4096)]] false),
  (.rows 4 [[(.i .i64 0), (.b false), (.b false), (.sl none 0 0 true)]] false),
  (.rows 3 [[(.sl none 0 0 true), (.sl none 0 0 true), (.i .i64 0)]] false),
  (.rows 3 [[(.i .i64 65535), (.i .i64 65535), (.i .i64 0)]] false),
  (.rows 1 [[(.i .i64 65535)]] false),
  (.rows 24 [[(.i .i64 2), (.p (some (n + 8, 0, 0))), (.i .i64 4096), (.i .i64 4294967295), (.i .i64 65535), (.i .i64 16384), (.i .i64 4294967295), (.p (some (n + 9, 0, 0))), (.p (some (n + 11, 0, 0))), (.p (some (n + 1, 0, 0))), (.p (some (n + 4, 0, 0))), (.p (some (n + 5, 0, 0))), (.p (some (n + 2, 0, 0))), (.p (some (n + 3, 0, 0))), (.sl (some (n + 12, 0)) 0 39 false), (.b false), (.b false), (.b false), (.b false), (.i .i64 1), (.i .i64 0), (.i .i64 (-1)), (.i .i64 (-1)), (.sl none 0 0 true)]] false),
  (.rows 5 [[(.i .i64 4096), (.i .i64 10), (.i .i64 65535), (.i .i64 16384), (.i .i64 1000)]] false),
  (.rows 12 [[(.sl (some (n + 7, 0)) 1 1 true), (.i .i64 4096), (.i .i64 10), (.i .i64 65535), (.i .i64 16384), (.i .i64 1000), (.i .i64 4096), (.i .i64 10), (.i .i64 65535), (.i .i64 16384), (.i .i64 1000), (.b false)]] false),
  (.rows 4 [[(.b true), (.i .i64 16384), (.sl none 0 0 true), (.i .i64 0)]] false),
  (.rows 3 [[(.i .i64 4096), (.i .i64 0), (.sl none 0 0 true)]] false),
  (.rows 4 [[(.p (some (n + 10, 0, 0))), (.i .i64 4096), (.b false), (.b false)]] false),
  (.bytes [0, 0, 0, 0, 0, 0, 0, 0, 0, 0, 0, 0, 0, 0, 0, 0, 0, 0, 0, 0, 0, 0, 0, 0, 0, 0, 0, 0, 0, 0, 0, 0, 0, 0, 0, 0, 0, 0, 0] false)]
theorem relcT2 (m i : Nat) (x : Blk) (hx : (cT2 m)[i]? = some x) : x.rel (MkR m m 13) x := by
  match i with
  | 0 => cases hx; simp only [Blk.rel, rowsRel, V.rels, V.rel, and_true, true_and, MkR]
  | 1 => cases hx; simp only [Blk.rel, rowsRel, V.rels, V.rel, and_true, true_and, MkR] <;> exact ⟨0, by omega, rfl, rfl⟩
  | 2 => cases hx; simp only [Blk.rel, rowsRel, V.rels, V.rel, and_true, true_and, MkR]
  | 3 => cases hx; simp only [Blk.rel, rowsRel, V.rels, V.rel, and_true, true_and, MkR]
  | 4 => cases hx; simp only [Blk.rel, rowsRel, V.rels, V.rel, and_true, true_and, MkR]
  | 5 => cases hx; simp only [Blk.rel, rowsRel, V.rels, V.rel, and_true, true_and, MkR]
  | 6 => cases hx; simp only [Blk.rel, rowsRel, V.rels, V.rel, and_true, true_and, MkR] <;> exact ⟨⟨8, by omega, rfl, rfl⟩, ⟨9, by omega, rfl, rfl⟩, ⟨11, by omega, rfl, rfl⟩, ⟨1, by omega, rfl, rfl⟩, ⟨4, by omega, rfl, rfl⟩, ⟨5, by omega, rfl, rfl⟩, ⟨2, by omega, rfl, rfl⟩, ⟨3, by omega, rfl, rfl⟩, ⟨12, by omega, rfl, rfl⟩⟩
  | 7 => cases hx; simp only [Blk.rel, rowsRel, V.rels, V.rel, and_true, true_and, MkR]
  | 8 => cases hx; simp only [Blk.rel, rowsRel, V.rels, V.rel, and_true, true_and, MkR] <;> exact ⟨7, by omega, rfl, rfl⟩
  | 9 => cases hx; simp only [Blk.rel, rowsRel, V.rels, V.rel, and_true, true_and, MkR]
  | 10 => cases hx; simp only [Blk.rel, rowsRel, V.rels, V.rel, and_true, true_and, MkR]
  | 11 => cases hx; simp only [Blk.rel, rowsRel, V.rels, V.rel, and_true, true_and, MkR] <;> exact ⟨10, by omega, rfl, rfl⟩
  | 12 => cases hx; simp only [Blk.rel, rowsRel, V.rels, V.rel, and_true, true_and, MkR]
  | i + 13 => cases hx
def cP2 (n : Nat) : List Blk := [(.rows 3 [[(.i .i64 4096), (.i .i64 0), (.sl none 0 0 true)]] false),
  (.rows 4 [[(.p (some (n + 0, 0, 0))), (.i .i64 4096), (.i .i64 4096), (.i .i64 4096)]] false),
  (.rows 4 [[(.i .i64 0), (.b false), (.b false), (.sl none 0 0 true)]] false),
  (.rows 3 [[(.sl none 0 0 true), (.sl none 0 0 true), (.i .i64 0)]] false),
  (.rows 3 [[(.i .i64 65535), (.i .i64 65535), (.i .i64 0)]] false),
  (.rows 1 [[(.i .i64 65535)]] false),
  (.rows 24 [[(.i .i64 2), (.p (some (n + 8, 0, 0))), (.i .i64 4096), (.i .i64 4294967295), (.i .i64 65535), (.i .i64 16384), (.i .i64 4294967295), (.p (some (n + 9, 0, 0))), (.p (some (n + 11, 0, 0))), (.p (some (n + 1, 0, 0))), (.p (some (n + 4, 0, 0))), (.p (some (n + 5, 0, 0))), (.p (some (n + 2, 0, 0))), (.p (some (n + 3, 0, 0))), (.sl (some (n + 12, 0)) 17 39 false), (.b false), (.b false), (.b false), (.b false), (.i .i64 1), (.i .i64 0), (.i .i64 (-1)), (.i .i64 (-1)), (.sl none 0 0 true)]] false),
  (.rows 5 [[(.i .i64 4096), (.i .i64 10), (.i .i64 65535), (.i .i64 16384), (.i .i64 1000)]] false),
  (.rows 12 [[(.sl (some (n + 7, 0)) 1 1 true), (.i .i64 4096), (.i .i64 10), (.i .i64 65535), (.i .i64 16384), (.i .i64 1000), (.i .i64 4096), (.i .i64 10), (.i .i64 65535), (.i .i64 16384), (.i .i64 1000), (.b false)]] false),
  (.rows 4 [[(.b true), (.i .i64 16384), (.sl none 0 0 true), (.i .i64 0)]] false),
  (.rows 3 [[(.i .i64 4096), (.i .i64 0), (.sl none 0 0 true)]] false),
  (.rows 4 [[(.p (some (n + 10, 0, 0))), (.i .i64 4096), (.b false), (.b false)]] false),
  (.bytes [0, 0, 8, 6, 0, 0, 0, 0, 0, 107, 101, 101, 112, 97, 108, 105, 118, 0, 0, 0, 0, 0, 0, 0, 0, 0, 0, 0, 0, 0, 0, 0, 0, 0, 0, 0, 0, 0, 0] false)]
theorem relcP2 (m i : Nat) (x : Blk) (hx : (cP2 m)[i]? = some x) : x.rel (MkR m m 13) x := by
  match i with
  | 0 => cases hx; simp only [Blk.rel, rowsRel, V.rels, V.rel, and_true, true_and, MkR]
  | 1 => cases hx; simp only [Blk.rel, rowsRel, V.rels, V.rel, and_true, true_and, MkR] <;> exact ⟨0, by omega, rfl, rfl⟩
  | 2 => cases hx; simp only [Blk.rel, rowsRel, V.rels, V.rel, and_true, true_and, MkR]
  | 3 => cases hx; simp only [Blk.rel, rowsRel, V.rels, V.rel, and_true, true_and, MkR]
  | 4 => cases hx; simp only [Blk.rel, rowsRel, V.rels, V.rel, and_true, true_and, MkR]
  | 5 => cases hx; simp only [Blk.rel, rowsRel, V.rels, V.rel, and_true, true_and, MkR]
  | 6 => cases hx; simp only [Blk.rel, rowsRel, V.rels, V.rel, and_true, true_and, MkR] <;> exact ⟨⟨8, by omega, rfl, rfl⟩, ⟨9, by omega, rfl, rfl⟩, ⟨11, by omega, rfl, rfl⟩, ⟨1, by omega, rfl, rfl⟩, ⟨4, by omega, rfl, rfl⟩, ⟨5, by omega, rfl, rfl⟩, ⟨2, by omega, rfl, rfl⟩, ⟨3, by omega, rfl, rfl⟩, ⟨12, by omega, rfl, rfl⟩⟩
  | 7 => cases hx; simp only [Blk.rel, rowsRel, V.rels, V.rel, and_true, true_and, MkR]
  | 8 => cases hx; simp only [Blk.rel, rowsRel, V.rels, V.rel, and_true, true_and, MkR] <;> exact ⟨7, by omega, rfl, rfl⟩
  | 9 => cases hx; simp only [Blk.rel, rowsRel, V.rels, V.rel, and_true, true_and, MkR]
  | 10 => cases hx; simp only [Blk.rel, rowsRel, V.rels, V.rel, and_true, true_and, MkR]
  | 11 => cases hx; simp only [Blk.rel, rowsRel, V.rels, V.rel, and_true, true_and, MkR] <;> exact ⟨10, by omega, rfl, rfl⟩
  | 12 => cases hx; simp only [Blk.rel, rowsRel, V.rels, V.rel, and_true, true_and, MkR]
  | i + 13 => cases hx
def cT (role : Int) (n : Nat) : List Blk := if role = 1 then cT1 n else cT2 n
def cP (role : Int) (n : Nat) : List Blk := if role = 1 then cP1 n else cP2 n
/-- An end's heap behind what was taken: 'cX': the connection's blocks. -/
abbrev nH (h : H) (ob tb : Blk) (role : Int) (A : Nat → Int) (B : Nat → Bool) (T : Nat → Int) (now : Int) : H := UH h ob tb (cB role) role A B (endC role own0 T now h.nx true)
abbrev jH (cX : Int → Nat → List Blk) (h : H) (ob tb : Blk) (role : Int) (A : Nat → Int) (B : Nat → Bool) (T : Nat → Int) (now : Int) : H := UJ 1 h ob tb (cX role) role A B (endC role own0 T now h.nx true)
abbrev Kl := List (Option Blk) → Nat → V → Bool
noncomputable def looks (h : H) (g : H) : List (Option Blk) := [getK g.tr h.nx, getK g.tr (h.nx + 1), getK g.tr (h.nx + 2), getK g.tr (h.nx + 3), getK g.tr (h.nx + 4), getK g.tr (h.nx + 5), getK g.tr (h.nx + 6), getK g.tr (h.nx + 7), getK g.tr (h.nx + 8), getK g.tr (h.nx + 9), getK g.tr (h.nx + 10), getK g.tr (h.nx + 11), getK g.tr (h.nx + 12), getK g.tr (h.nx + 13), getK g.tr (h.nx + 14), getK g.tr (h.nx + 15), getK g.tr (h.nx + 16), getK g.tr (h.nx + 17), getK g.tr 4096]
def sees (ob tb : Blk) (bl : List Blk) (role : Int) (A : Nat → Int) (B : Nat → Bool) (c : Nat → V) (z : Option Blk) : List (Option Blk) := some ob :: some tb :: (bl.map some ++ [some (.rows 12 [tRow A B] false), some (.rows 23 [eRow c] false), some (.rows 2 [[.i .i64 role, .i .i64 0]] false), z])
theorem take1a (ob tb : Blk) (A : Nat → Int) (B : Nat → Bool) (T : Nat → Int) (now : Int) (K : Kl) : runK prN 3000 (.fn 16) [.p (some (4112, 0, 0)), .i .i64 1048576] (nH ⟨4096, .e⟩ ob tb 1 A B T now) (fun v g => K (looks ⟨4096, .e⟩ g) g.nx v) = K (sees ob tb (cT1 4098) 1 A B (endC 1 own0 T now 4096 true) (some ob)) 4117 (.sl (some (4116, 0)) 69 69 false) := by kernel_rfl
theorem take1b (ob tb : Blk) (A : Nat → Int) (B : Nat → Bool) (T : Nat → Int) (now : Int) (K : Kl) : runK prN 3000 (.fn 16) [.p (some (4113, 0, 0)), .i .i64 1048576] (nH ⟨4097, .e⟩ ob tb 1 A B T now) (fun v g => K (looks ⟨4097, .e⟩ g) g.nx v) = K (sees ob tb (cT1 4099) 1 A B (endC 1 own0 T now 4097 true) none) 4118 (.sl (some (4117, 0)) 69 69 false) := by kernel_rfl
theorem take1c (z : Blk) (ob tb : Blk) (A : Nat → Int) (B : Nat → Bool) (T : Nat → Int) (now : Int) (K : Kl) : runK prN 3000 (.fn 16) [.p (some (4113, 0, 0)), .i .i64 1048576] (nH (h0.push z) ob tb 1 A B T now) (fun v g => K (looks (h0.push z) g) g.nx v) = K (sees ob tb (cT1 4099) 1 A B (endC 1 own0 T now 4097 true) (some z)) 4118 (.sl (some (4117, 0)) 69 69 false) := by kernel_rfl
theorem take2a (ob tb : Blk) (A : Nat → Int) (B : Nat → Bool) (T : Nat → Int) (now : Int) (K : Kl) : runK prN 3000 (.fn 16) [.p (some (4112, 0, 0)), .i .i64 1048576] (nH ⟨4096, .e⟩ ob tb 2 A B T now) (fun v g => K (looks ⟨4096, .e⟩ g) g.nx v) = K (sees ob tb (cT2 4098) 2 A B (endC 2 own0 T now 4096 true) (some ob)) 4117 (.sl (some (4116, 0)) 39 39 false) := by kernel_rfl
theorem take2b (ob tb : Blk) (A : Nat → Int) (B : Nat → Bool) (T : Nat → Int) (now : Int) (K : Kl) : runK prN 3000 (.fn 16) [.p (some (4113, 0, 0)), .i .i64 1048576] (nH ⟨4097, .e⟩ ob tb 2 A B T now) (fun v g => K (looks ⟨4097, .e⟩ g) g.nx v) = K (sees ob tb (cT2 4099) 2 A B (endC 2 own0 T now 4097 true) none) 4118 (.sl (some (4117, 0)) 39 39 false) := by kernel_rfl
theorem take2c (z : Blk) (ob tb : Blk) (A : Nat → Int) (B : Nat → Bool) (T : Nat → Int) (now : Int) (K : Kl) : runK prN 3000 (.fn 16) [.p (some (4113, 0, 0)), .i .i64 1048576] (nH (h0.push z) ob tb 2 A B T now) (fun v g => K (looks (h0.push z) g) g.nx v) = K (sees ob tb (cT2 4099) 2 A B (endC 2 own0 T now 4097 true) (some z)) 4118 (.sl (some (4117, 0)) 39 39 false) := by kernel_rfl
theorem ping1 (z : Blk) (ob tb : Blk) (A : Nat → Int) (B : Nat → Bool) (T : Nat → Int) (now t : Int) (LS : LoopSt) (K : Kl) : runK prN 3000 (.fn 63) [.p (some (4105, 0, 0)), .sl (some (4121, 0)) 8 8 false] (((dueH (jH cT (h0.push z) ob tb 1 A B T now) (4097 + 16) (4097 + 15) (endC 1 own0 T now 4097 true) A B t 3 LS).push aliveB).set 4121 aliveB) (fun v g => K (getK g.tr (4097 + 19) :: getK g.tr (4097 + 20) :: getK g.tr (4097 + 21) :: getK g.tr (4097 + 22) :: getK g.tr (4097 + 23) :: looks (h0.push z) g) (Nat.ble 4122 g.nx).toNat v) = K (some (.rows 1 [[.p (some (4113, 0, 0))]] false) :: some (.rows 1 [[.p (some (4112, 0, 0))]] false) :: some (.rows 1 [[.i .i64 t]] false) :: some (.loop { LS with st := .busy }) :: some (.rows 6 [cRow (fun i => decide (i = 3))] false) :: sees ob tb (cP1 4099) 1 (fun i => if i = 3 then 0 else A i) (fun i => if i = 3 then false else B i) (upd (endC 1 own0 T now 4097 true) 12 (.i .i64 t)) (some z)) 1 (.i .i64 0) := by kernel_rfl
theorem ping2 (z : Blk) (ob tb : Blk) (A : Nat → Int) (B : Nat → Bool) (T : Nat → Int) (now t : Int) (LS : LoopSt) (K : Kl) : runK prN 3000 (.fn 63) [.p (some (4105, 0, 0)), .sl (some (4121, 0)) 8 8 false] (((dueH (jH cT (h0.push z) ob tb 2 A B T now) (4097 + 16) (4097 + 15) (endC 2 own0 T now 4097 true) A B t 3 LS).push aliveB).set 4121 aliveB) (fun v g => K (getK g.tr (4097 + 19) :: getK g.tr (4097 + 20) :: getK g.tr (4097 + 21) :: getK g.tr (4097 + 22) :: getK g.tr (4097 + 23) :: looks (h0.push z) g) (Nat.ble 4122 g.nx).toNat v) = K (some (.rows 1 [[.p (some (4113, 0, 0))]] false) :: some (.rows 1 [[.p (some (4112, 0, 0))]] false) :: some (.rows 1 [[.i .i64 t]] false) :: some (.loop { LS with st := .busy }) :: some (.rows 6 [cRow (fun i => decide (i = 3))] false) :: sees ob tb (cP2 4099) 2 (fun i => if i = 3 then 0 else A i) (fun i => if i = 3 then false else B i) (upd (endC 2 own0 T now 4097 true) 12 (.i .i64 t)) (some z)) 1 (.i .i64 0) := by kernel_rfl
theorem dead1 (z : Blk) (ob tb : Blk) (A : Nat → Int) (B : Nat → Bool) (T : Nat → Int) (now t : Int) (LS : LoopSt) (K : Kt) : runK prN 3000 (.fn 27) [.p (some (4113, 0, 0)), .i .i64 4] (dueH (jH cP (h0.push z) ob tb 1 A B T now) (4097 + 16) (4097 + 15) (endC 1 own0 T now 4097 true) A B t 4 LS) (fun v g => K (getK g.tr 4113) (getK g.tr 4116) (getK g.tr 4119) (getK g.tr 4096) g.nx v) = K (some (.rows 23 [eRow (shutC own0 1 T t 4097 4 (.sl (some (4127, 0)) 1 1 false))] false)) (some (.rows 1 [[.p (some (4113, 0, 0))]] false)) (some (.loop { LS with st := .busy })) (some z) 4128 (.tup []) := by kernel_rfl
theorem dead2 (z : Blk) (ob tb : Blk) (A : Nat → Int) (B : Nat → Bool) (T : Nat → Int) (now t : Int) (LS : LoopSt) (K : Kt) : runK prN 3000 (.fn 27) [.p (some (4113, 0, 0)), .i .i64 4] (dueH (jH cP (h0.push z) ob tb 2 A B T now) (4097 + 16) (4097 + 15) (endC 2 own0 T now 4097 true) A B t 4 LS) (fun v g => K (getK g.tr 4113) (getK g.tr 4116) (getK g.tr 4119) (getK g.tr 4096) g.nx v) = K (some (.rows 23 [eRow (shutC own0 2 T t 4097 4 (.sl (some (4127, 0)) 1 1 false))] false)) (some (.rows 1 [[.p (some (4113, 0, 0))]] false)) (some (.loop { LS with st := .busy })) (some z) 4128 (.tup []) := by kernel_rfl
end Go.Proofs.YtfabolagjlhdpaaGreat.EndK
