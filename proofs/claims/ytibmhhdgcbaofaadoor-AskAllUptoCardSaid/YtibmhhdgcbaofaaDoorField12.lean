/- The laws of lists: FieldLists. -/
import Derived.Test.YtibmhhdgcbaofaaDoorField11
import Derived.Test.YtibmhhdgcbaofaaDoorAmAll2
namespace Am
set_option linter.unusedVariables false
set_option linter.unusedSimpArgs false
set_option maxRecDepth 20000
set_option maxHeartbeats 8000000
variable {pr : Prog}

theorem fd_of {d : Dt} (h : Dt.has (.st [.s, .s, .b]) d) : ∃ f : Fd, d = .st [.s f.n, .s f.v, .b f.z] := by
  cases d with
  | st xs =>
    simp only [Dt.has] at h
    match xs, h with
    | [a, b, c], h =>
      simp only [Dt.hasL] at h
      obtain ⟨h1, h2, h3, _⟩ := h
      cases a <;> simp only [Dt.has] at h1
      cases b <;> simp only [Dt.has] at h2
      cases c <;> simp only [Dt.has] at h3
      rename_i x y z
      exact ⟨⟨x, y, z⟩, rfl⟩
    | [], h => simp [Dt.hasL] at h
    | [a], h => simp [Dt.hasL] at h
    | [a, b], h => simp [Dt.hasL] at h
    | a :: b :: c :: d :: r, h => simp [Dt.hasL] at h
  | _ => simp [Dt.has] at h
theorem fds_of : ∀ {xs : List Dt}, Dt.hasA (.st [.s, .s, .b]) xs → ∃ fs : List Fd, fs.length = xs.length ∧ ∀ h, Dt.layR xs h = (fs.map Fd.row, h)
  | [], _ => ⟨[], rfl, fun h => by simp [Dt.layR]⟩
  | x :: xs, h => by
    simp only [Dt.hasA] at h
    obtain ⟨f, rfl⟩ := fd_of h.1
    obtain ⟨fs, hl, hfs⟩ := fds_of h.2
    refine ⟨f :: fs, by simp [hl], fun g => ?_⟩
    simp only [Dt.layR, Dt.lay, Dt.layL, hfs]
    rfl
abbrev fdsTy : Ty := .sl 3 (.st [.s, .s, .b])
theorem fields_of {x : Dt} (hx : Dt.has fdsTy x) : ∃ fs : List Fd, fs.length ≤ Go.maxLen ∧ ∀ h, ∃ p cap ex, (x.arg h).1 = .sl p fs.length cap ex ∧ readRows Fd.row (x.arg h).2 3 p fs.length = some fs ∧ Kept h (x.arg h).2 := by
  cases x with
  | nl => exact ⟨[], by simp, fun h => ⟨none, 0, true, rfl, readRows_eq Fd.row_inj ⟨rfl, .inl rfl⟩ (by simp), Kept.refl⟩⟩
  | sl k xs =>
    simp only [Dt.has] at hx
    obtain ⟨rfl, hl, hA⟩ := hx
    obtain ⟨fs, hlen, hfs⟩ := fds_of hA
    refine ⟨fs, by omega, fun h => ⟨some (h.nx, 0), fs.length, false, ?_, ?_, ?_⟩⟩
    · simp only [Dt.arg, hfs, hlen]
    · have h63 : fs.length < 9223372036854775808 := by have : Go.maxLen ≤ 9223372036854775807 := by decide
                                                       omega
      simp only [Dt.arg, Dt.lay, hfs]
      refine readRows_eq Fd.row_inj ⟨by simp, ?_⟩ h63
      cases xs with
      | nil => exact .inl (by simpa using hlen)
      | cons y ys => exact .inr ⟨h.nx, 0, fs.map Fd.row, true, rfl, by show h.nx < h.nx + 1; omega, by simp [H.get_push], fun i row hi => by rw [Nat.zero_add]; exact hi⟩
    · simp only [Dt.arg, Dt.lay, hfs]
      cases xs with
      | nil => exact ⟨Nat.le_succ _, fun b hb => rfl⟩
      | cons y ys => exact Kept.push Kept.refl
  | _ => simp [Dt.has] at hx
theorem fieldLists_law {kb k1 k2 k3 k4 k5 k6 k7 k8 : Nat} (hb : pr.ext kb = some (xConst (.b true))) (h1 : pr.ext k1 = some (gTell reqP)) (h2 : pr.ext k2 = some (gTell reqP)) (h3 : pr.ext k3 = some (gTell respP)) (h4 : pr.ext k4 = some (gTell respP))
    (h5 : pr.ext k5 = some (gTell fun m => decide (m.length = 0))) (h6 : pr.ext k6 = some (gTell fun m => decide (m.length = 0))) (h7 : pr.ext k7 = some gSize) (h8 : pr.ext k8 = some gSize)
    {p : Option (Nat × Nat)} {n cap : Nat} {ex : Bool} {fs : List Fd} {h : H} (hr : readRows Fd.row h 3 p n = some fs) : wpF pr (c_isthmuslaw3_FieldLists kb k1 k2 k3 k4 k5 k6 k7 k8) [.sl p n cap ex] h (fun v _ => v = .b true) := by
  have xb := @wpCall_ext pr kb _ hb
  have x1 := @wpCall_ext pr k1 _ h1
  have x2 := @wpCall_ext pr k2 _ h2
  have x3 := @wpCall_ext pr k3 _ h3
  have x4 := @wpCall_ext pr k4 _ h4
  have x5 := @wpCall_ext pr k5 _ h5
  have x6 := @wpCall_ext pr k6 _ h6
  have x7 := @wpCall_ext pr k7 _ h7
  have x8 := @wpCall_ext pr k8 _ h8
  have e1 : gTell reqP [.sl p n cap ex] h = some (.i .i64 (if tellP reqP fs = true then 0 else 5), h) := by rw [gTell_eq, hr]; rfl
  have e2 : gTell respP [.sl p n cap ex] h = some (.i .i64 (if tellP respP fs = true then 0 else 5), h) := by rw [gTell_eq, hr]; rfl
  have e3 : gTell (fun m => decide (m.length = 0)) [.sl p n cap ex] h = some (.i .i64 (if tellP (fun m => decide (m.length = 0)) fs = true then 0 else 5), h) := by rw [gTell_eq, hr]; rfl
  have e4 : gSize [.sl p n cap ex] h = some (.i .i64 (sizeF 0 fs), h) := by simp only [gSize, hr, Option.bind_some]
  generalize (if tellP reqP fs = true then (0 : Int) else 5) = r1 at e1
  generalize (if tellP respP fs = true then (0 : Int) else 5) = r2 at e2
  generalize (if tellP (fun m => decide (m.length = 0)) fs = true then (0 : Int) else 5) = r3 at e3
  unfold wpF c_isthmuslaw3_FieldLists
  refine ⟨by simp, ?_⟩
  simp only [↓STEP, go_sem, ↓reduceIte, Nat.reduceEqDiff, Nat.reduceLeDiff, Nat.reduceLT, Nat.reduceAdd, Nat.reduceSub, Nat.reduceMul, Int.reduceLT, Int.reduceLE, Int.reduceEq, Int.reduceAdd, Int.reduceSub, Int.reduceMul, Int.reduceNeg, Int.reduceToNat, reduceCtorEq, xb, xConst_eq', x1, x2, x3, x4, x5, x6, x7, x8, e1, e2, e3, e4]
end Am
