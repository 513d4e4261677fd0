/- Steps of a script: how they lie; those that are not too many. -/
import Derived.Test.YtjcchmmmbegamaaDoorScr6
namespace Am
set_option linter.unusedVariables false
set_option linter.unusedSimpArgs false
set_option maxRecDepth 20000
set_option maxHeartbeats 4000000
variable {pr : Prog}

/-- A step. -/
structure Sp where
  k : Int
  r : Int
  i : Int
  n : Int
  fs : List Fd
  d : List UInt8
  e : Bool
  c1 : Int
  c2 : Int
  c3 : Int
  c4 : Int
  c5 : Int
def spRow (h : H) (s : Sp) (row : List V) : Prop :=
  ∃ p fn fc fex q dn dc dex, row = [.i .i64 s.k, .i .i64 s.r, .i .i64 s.i, .i .i64 s.n, .sl p fn fc fex, .sl q dn dc dex, .b s.e, .i .i64 s.c1, .i .i64 s.c2, .i .i64 s.c3, .i .i64 s.c4, .i .i64 s.c5] ∧ rowsIn h 3 p fn (s.fs.map Fd.row) ∧ rdB h q dn = some s.d
def stepsIn (h : H) (p : Option (Nat × Nat)) (n : Nat) (ss : List Sp) : Prop :=
  ss.length = n ∧ (n = 0 ∨ ∃ b r all ro, p = some (b, r) ∧ b < h.nx ∧ h.get b = some (.rows 12 all ro) ∧ ∀ i s, ss[i]? = some s → ∃ row, all[r + i]? = some row ∧ spRow h s row)
theorem spRow_kept {h g : H} {s : Sp} {row : List V} (hr : spRow h s row) (hk : Kept h g) : spRow g s row := by
  obtain ⟨p, fn, fc, fex, q, dn, dc, dex, h1, h2, h3⟩ := hr
  exact ⟨p, fn, fc, fex, q, dn, dc, dex, h1, rowsIn_kept h2 hk, rdB_kept h3 hk⟩
end Am
