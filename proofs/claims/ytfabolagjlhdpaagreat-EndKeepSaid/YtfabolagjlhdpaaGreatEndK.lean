/- The laws of layer 19 at their seat: a new connection, whatever the heap. -/
import Derived.Test.YtfabolagjlhdpaaGreatEndK0
namespace Go.Proofs.YtfabolagjlhdpaaGreat.EndK
open Am
set_option linter.all false
set_option maxRecDepth 100000
def cB1 (n : Nat) : List Blk := [(.rows 3 [[(.i .i64 4096), (.i .i64 0), (.sl none 0 0 true)]] false),
  (.rows 4 [[(.p (some (n + 0, 0, 0))), (.i .i64 4096), (.i .i64 4096), (.i .i64 4096)]] false),
  (.rows 4 [[(.i .i64 0), (.b false), (.b false), (.sl none 0 0 true)]] false),
  (.rows 3 [[(.sl none 0 0 true), (.sl none 0 0 true), (.i .i64 0)]] false),
  (.rows 3 [[(.i .i64 65535), (.i .i64 65535), (.i .i64 0)]] false),
  (.rows 1 [[(.i .i64 65535)]] false),
  (.rows 24 [[(.i .i64 1), (.p (some (n + 8, 0, 0))), (.i .i64 4096), (.i .i64 4294967295), (.i .i64 65535), (.i .i64 16384), (.i .i64 4294967295), (.p (some (n + 9, 0, 0))), (.p (some (n + 11, 0, 0))), (.p (some (n + 1, 0, 0))), (.p (some (n + 4, 0, 0))), (.p (some (n + 5, 0, 0))), (.p (some (n + 2, 0, 0))), (.p (some (n + 3, 0, 0))), (.sl (some (n + 12, 0)) 69 69 false), (.b false), (.b false), (.b false), (.b false), (.i .i64 1), (.i .i64 0), (.i .i64 (-1)), (.i .i64 (-1)), (.sl none 0 0 true)]] false),
  (.rows 5 [[(.i .i64 4096), (.i .i64 10), (.i .i64 65535), (.i .i64 16384), (.i .i64 1000)]] false),
  (.rows 12 [[(.sl (some (n + 7, 0)) 1 1 true), (.i .i64 4096), (.i .i64 10), (.i .i64 65535), (.i .i64 16384), (.i .i64 1000), (.i .i64 4096), (.i .i64 10), (.i .i64 65535), (.i .i64 16384), (.i .i64 1000), (.b false)]] false),
  (.rows 4 [[(.b false), (.i .i64 16384), (.sl none 0 0 true), (.i .i64 0)]] false),
  (.rows 3 [[(.i .i64 4096), (.i .i64 0), (.sl none 0 0 true)]] false),
  (.rows 4 [[(.p (some (n + 10, 0, 0))), (.i .i64 4096), (.b false), (.b false)]] false),
  (.bytes [80, 82, 73, 32, 42, 32, 72, 84, 84, 80, 47, 50, 46, 48, 13, 10, 13, 10, 83, 77, 13, 10, 13, 10, 0, 0, 36, 4, 0, 0, 0, 0, 0, 0, 1, 0, 0, 16, 0, 0, 2, 0, 0, 0, 0, 0, 3, 0, 0, 0, 10, 0, 4, 0, 0, 255, 255, 0, 5, 0, 0, 64, 0, 0, 6, 0, 0, 3, 232] false)]
def cB2 (n : Nat) : List Blk := [(.rows 3 [[(.i .i64 4096), (.i .i64 0), (.sl none 0 0 true)]] false),
  (.rows 4 [[(.p (some (n + 0, 0, 0))), (.i .i64 4096), (.i .i64 4096), (.i .i64 4096)]] false),
  (.rows 4 [[(.i .i64 0), (.b false), (.b false), (.sl none 0 0 true)]] false),
  (.rows 3 [[(.sl none 0 0 true), (.sl none 0 0 true), (.i .i64 0)]] false),
  (.rows 3 [[(.i .i64 65535), (.i .i64 65535), (.i .i64 0)]] false),
  (.rows 1 [[(.i .i64 65535)]] false),
  (.rows 24 [[(.i .i64 2), (.p (some (n + 8, 0, 0))), (.i .i64 4096), (.i .i64 4294967295), (.i .i64 65535), (.i .i64 16384), (.i .i64 4294967295), (.p (some (n + 9, 0, 0))), (.p (some (n + 11, 0, 0))), (.p (some (n + 1, 0, 0))), (.p (some (n + 4, 0, 0))), (.p (some (n + 5, 0, 0))), (.p (some (n + 2, 0, 0))), (.p (some (n + 3, 0, 0))), (.sl (some (n + 12, 0)) 39 39 false), (.b false), (.b false), (.b false), (.b false), (.i .i64 1), (.i .i64 0), (.i .i64 (-1)), (.i .i64 (-1)), (.sl none 0 0 true)]] false),
  (.rows 5 [[(.i .i64 4096), (.i .i64 10), (.i .i64 65535), (.i .i64 16384), (.i .i64 1000)]] false),
  (.rows 12 [[(.sl (some (n + 7, 0)) 1 1 true), (.i .i64 4096), (.i .i64 10), (.i .i64 65535), (.i .i64 16384), (.i .i64 1000), (.i .i64 4096), (.i .i64 10), (.i .i64 65535), (.i .i64 16384), (.i .i64 1000), (.b false)]] false),
  (.rows 4 [[(.b true), (.i .i64 16384), (.sl none 0 0 true), (.i .i64 0)]] false),
  (.rows 3 [[(.i .i64 4096), (.i .i64 0), (.sl none 0 0 true)]] false),
  (.rows 4 [[(.p (some (n + 10, 0, 0))), (.i .i64 4096), (.b false), (.b false)]] false),
  (.bytes [0, 0, 30, 4, 0, 0, 0, 0, 0, 0, 1, 0, 0, 16, 0, 0, 3, 0, 0, 0, 10, 0, 4, 0, 0, 255, 255, 0, 5, 0, 0, 64, 0, 0, 6, 0, 0, 3, 232] false)]
noncomputable def cV (n : Nat) : V := .tup [.p (some (n + 6, 0, 0)), .i .i64 0]
theorem new1K : runK prB 3000 (.fn 21) [.i .i64 1, vList0] ⟨4096, .e⟩ (swept ⟨4096, .e⟩ (pushAll ⟨4096, .e⟩ (cB1 4096)) [4105, 4106, 4107, 4108, 4109, 4110, 4111, 4115, 4116, 4117, 4118, 4119, 4215] (cV 4096)) = true := by kernel_rfl
theorem rel1 (m i : Nat) (x y : Blk) (hx : (cB1 m)[i]? = some x) (hy : (cB1 4096)[i]? = some y) : x.rel (MkR m 4096 13) y := by
  match i with
  | 0 => cases hx; cases hy; simp only [Blk.rel, rowsRel, V.rels, V.rel, and_true, true_and, MkR]
  | 1 => cases hx; cases hy; simp only [Blk.rel, rowsRel, V.rels, V.rel, and_true, true_and, MkR] <;> exact ⟨0, by omega, rfl, rfl⟩
  | 2 => cases hx; cases hy; simp only [Blk.rel, rowsRel, V.rels, V.rel, and_true, true_and, MkR]
  | 3 => cases hx; cases hy; simp only [Blk.rel, rowsRel, V.rels, V.rel, and_true, true_and, MkR]
  | 4 => cases hx; cases hy; simp only [Blk.rel, rowsRel, V.rels, V.rel, and_true, true_and, MkR]
  | 5 => cases hx; cases hy; simp only [Blk.rel, rowsRel, V.rels, V.rel, and_true, true_and, MkR]
  | 6 => cases hx; cases hy; simp only [Blk.rel, rowsRel, V.rels, V.rel, and_true, true_and, MkR] <;> exact ⟨⟨8, by omega, rfl, rfl⟩, ⟨9, by omega, rfl, rfl⟩, ⟨11, by omega, rfl, rfl⟩, ⟨1, by omega, rfl, rfl⟩, ⟨4, by omega, rfl, rfl⟩, ⟨5, by omega, rfl, rfl⟩, ⟨2, by omega, rfl, rfl⟩, ⟨3, by omega, rfl, rfl⟩, ⟨12, by omega, rfl, rfl⟩⟩
  | 7 => cases hx; cases hy; simp only [Blk.rel, rowsRel, V.rels, V.rel, and_true, true_and, MkR]
  | 8 => cases hx; cases hy; simp only [Blk.rel, rowsRel, V.rels, V.rel, and_true, true_and, MkR] <;> exact ⟨7, by omega, rfl, rfl⟩
  | 9 => cases hx; cases hy; simp only [Blk.rel, rowsRel, V.rels, V.rel, and_true, true_and, MkR]
  | 10 => cases hx; cases hy; simp only [Blk.rel, rowsRel, V.rels, V.rel, and_true, true_and, MkR]
  | 11 => cases hx; cases hy; simp only [Blk.rel, rowsRel, V.rels, V.rel, and_true, true_and, MkR] <;> exact ⟨10, by omega, rfl, rfl⟩
  | 12 => cases hx; cases hy; simp only [Blk.rel, rowsRel, V.rels, V.rel, and_true, true_and, MkR]
  | i + 13 => cases hx
theorem new1X : ExtFor Tryz.prog 21 (gMake [.i .i64 1, vList0] cV cB1) := ExtFor.make (n := 3000) (k := 13) okB (by kernel_rfl) rfl new1K (fun _ => rfl) rel1 (fun m => ⟨⟨⟨6, by omega, rfl, rfl⟩, rfl, rfl⟩, ⟨rfl, rfl⟩, trivial⟩)
theorem new2K : runK prB 3000 (.fn 21) [.i .i64 2, vList0] ⟨4096, .e⟩ (swept ⟨4096, .e⟩ (pushAll ⟨4096, .e⟩ (cB2 4096)) [4103, 4104, 4105, 4106, 4107, 4108, 4109, 4113, 4114, 4115, 4116, 4117, 4199] (cV 4096)) = true := by kernel_rfl
theorem rel2 (m i : Nat) (x y : Blk) (hx : (cB2 m)[i]? = some x) (hy : (cB2 4096)[i]? = some y) : x.rel (MkR m 4096 13) y := by
  match i with
  | 0 => cases hx; cases hy; simp only [Blk.rel, rowsRel, V.rels, V.rel, and_true, true_and, MkR]
  | 1 => cases hx; cases hy; simp only [Blk.rel, rowsRel, V.rels, V.rel, and_true, true_and, MkR] <;> exact ⟨0, by omega, rfl, rfl⟩
  | 2 => cases hx; cases hy; simp only [Blk.rel, rowsRel, V.rels, V.rel, and_true, true_and, MkR]
  | 3 => cases hx; cases hy; simp only [Blk.rel, rowsRel, V.rels, V.rel, and_true, true_and, MkR]
  | 4 => cases hx; cases hy; simp only [Blk.rel, rowsRel, V.rels, V.rel, and_true, true_and, MkR]
  | 5 => cases hx; cases hy; simp only [Blk.rel, rowsRel, V.rels, V.rel, and_true, true_and, MkR]
  | 6 => cases hx; cases hy; simp only [Blk.rel, rowsRel, V.rels, V.rel, and_true, true_and, MkR] <;> exact ⟨⟨8, by omega, rfl, rfl⟩, ⟨9, by omega, rfl, rfl⟩, ⟨11, by omega, rfl, rfl⟩, ⟨1, by omega, rfl, rfl⟩, ⟨4, by omega, rfl, rfl⟩, ⟨5, by omega, rfl, rfl⟩, ⟨2, by omega, rfl, rfl⟩, ⟨3, by omega, rfl, rfl⟩, ⟨12, by omega, rfl, rfl⟩⟩
  | 7 => cases hx; cases hy; simp only [Blk.rel, rowsRel, V.rels, V.rel, and_true, true_and, MkR]
  | 8 => cases hx; cases hy; simp only [Blk.rel, rowsRel, V.rels, V.rel, and_true, true_and, MkR] <;> exact ⟨7, by omega, rfl, rfl⟩
  | 9 => cases hx; cases hy; simp only [Blk.rel, rowsRel, V.rels, V.rel, and_true, true_and, MkR]
  | 10 => cases hx; cases hy; simp only [Blk.rel, rowsRel, V.rels, V.rel, and_true, true_and, MkR]
  | 11 => cases hx; cases hy; simp only [Blk.rel, rowsRel, V.rels, V.rel, and_true, true_and, MkR] <;> exact ⟨10, by omega, rfl, rfl⟩
  | 12 => cases hx; cases hy; simp only [Blk.rel, rowsRel, V.rels, V.rel, and_true, true_and, MkR]
  | i + 13 => cases hx
theorem new2X : ExtFor Tryz.prog 21 (gMake [.i .i64 2, vList0] cV cB2) := ExtFor.make (n := 3000) (k := 13) okB (by kernel_rfl) rfl new2K (fun _ => rfl) rel2 (fun m => ⟨⟨⟨6, by omega, rfl, rfl⟩, rfl, rfl⟩, ⟨rfl, rfl⟩, trivial⟩)
theorem nozK (m : Nat) : runK prB 3000 (.fn 21) [.i .i64 (.ofNat 0), vList0] ⟨4096, .e⟩ (swept ⟨4096, .e⟩ (pushAll ⟨4096, .e⟩ []) [] (.tup [.p none, .i .i64 1])) = true := by kernel_rfl
theorem nozX (m : Nat) : ExtFor Tryz.prog 21 (gMake [.i .i64 (.ofNat 0), vList0] (fun _ => .tup [.p none, .i .i64 1]) (fun _ => [])) := ExtFor.make (n := 3000) (k := 0) okB (by kernel_rfl) rfl (nozK m) (fun _ => rfl) (fun m i x y hx => by cases hx) (fun m => ⟨trivial, ⟨rfl, rfl⟩, trivial⟩)
theorem nopK (m : Nat) : runK prB 3000 (.fn 21) [.i .i64 (.ofNat (m + 3)), vList0] ⟨4096, .e⟩ (swept ⟨4096, .e⟩ (pushAll ⟨4096, .e⟩ []) [] (.tup [.p none, .i .i64 1])) = true := by kernel_rfl
theorem nopX (m : Nat) : ExtFor Tryz.prog 21 (gMake [.i .i64 (.ofNat (m + 3)), vList0] (fun _ => .tup [.p none, .i .i64 1]) (fun _ => [])) := ExtFor.make (n := 3000) (k := 0) okB (by kernel_rfl) rfl (nopK m) (fun _ => rfl) (fun m i x y hx => by cases hx) (fun m => ⟨trivial, ⟨rfl, rfl⟩, trivial⟩)
theorem nonK (m : Nat) : runK prB 3000 (.fn 21) [.i .i64 (.negSucc m), vList0] ⟨4096, .e⟩ (swept ⟨4096, .e⟩ (pushAll ⟨4096, .e⟩ []) [] (.tup [.p none, .i .i64 1])) = true := by kernel_rfl
theorem nonX (m : Nat) : ExtFor Tryz.prog 21 (gMake [.i .i64 (.negSucc m), vList0] (fun _ => .tup [.p none, .i .i64 1]) (fun _ => [])) := ExtFor.make (n := 3000) (k := 0) okB (by kernel_rfl) rfl (nonK m) (fun _ => rfl) (fun m i x y hx => by cases hx) (fun m => ⟨trivial, ⟨rfl, rfl⟩, trivial⟩)
theorem gMake_at {ys0 : List V} {v : Nat → V} {B : Nat → List Blk} {h : H} : gMake ys0 v B ys0 h = some (v h.nx, pushAll h (B h.nx)) := by unfold gMake; rw [if_pos rfl]
/-- A new connection: of either role; of no other. -/
noncomputable def gConn (ys : List V) (h : H) : Option (V × H) :=
  match ys with
  | [.i .i64 role, v] => open Classical in if v = vList0 then (if role = 1 then some (cV h.nx, pushAll h (cB1 h.nx)) else if role = 2 then some (cV h.nx, pushAll h (cB2 h.nx)) else some (.tup [.p none, .i .i64 1], h)) else none
  | _ => none
theorem connX : ExtFor Tryz.prog 21 gConn := by
  intro ys h v h' hg
  unfold gConn at hg
  split at hg
  · rename_i role v
    split at hg
    · rename_i hv
      subst hv
      split at hg
      · rename_i h1; subst h1; exact new1X _ _ _ _ (gMake_at.trans hg)
      · split at hg
        · rename_i h1; subst h1; exact new2X _ _ _ _ (gMake_at.trans hg)
        · rename_i n1 n2
          rcases role with m | m
          · rcases m with _ | _ | _ | m
            · exact nozX 0 _ _ _ _ (gMake_at.trans hg)
            · exact absurd rfl n1
            · exact absurd rfl n2
            · exact nopX m _ _ _ _ (gMake_at.trans hg)
          · exact nonX m _ _ _ _ (gMake_at.trans hg)
    · cases hg
  · cases hg
end Go.Proofs.YtfabolagjlhdpaaGreat.EndK
