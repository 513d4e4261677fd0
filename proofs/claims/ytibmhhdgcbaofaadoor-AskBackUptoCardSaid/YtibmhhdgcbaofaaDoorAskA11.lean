/- Fields and settings as arguments, of a bounded bulk. -/
import Derived.Test.YtibmhhdgcbaofaaDoorAskA7
import Derived.Test.YtibmhhdgcbaofaaDoorAskA4
import Derived.Test.YtibmhhdgcbaofaaDoorField8
import Derived.Test.YtibmhhdgcbaofaaDoorAsk1
import Derived.Test.YtibmhhdgcbaofaaDoorField12
import Derived.Test.YtibmhhdgcbaofaaDoorAmBulk
namespace Am
set_option linter.unusedVariables false
set_option linter.unusedSimpArgs false
set_option maxRecDepth 20000
set_option maxHeartbeats 4000000

theorem fds_ofB : ∀ {xs : List Dt}, Dt.hasA (.st [.s, .s, .b]) xs → ∃ fs : List Fd, fs.length = xs.length ∧ (∀ h, Dt.layR xs h = (fs.map Fd.row, h)) ∧ fs.length ≤ Dt.bulkL xs ∧ ∀ f ∈ fs, f.n.length ≤ Dt.bulkL xs ∧ f.v.length ≤ Dt.bulkL xs
  | [], _ => ⟨[], rfl, fun h => by simp [Dt.layR], Nat.zero_le _, fun f hf => by cases hf⟩
  | x :: xs, h => by
    simp only [Dt.hasA] at h
    obtain ⟨f, rfl⟩ := fd_of h.1
    obtain ⟨fs, hl, hfs, hb, hm⟩ := fds_ofB h.2
    refine ⟨f :: fs, by simp [hl], fun g => ?_, ?_, fun g hg => ?_⟩
    · simp only [Dt.layR, Dt.lay, Dt.layL, hfs]
      rfl
    · simp only [List.length_cons, Dt.bulkL, Dt.bulk]; omega
    · simp only [Dt.bulkL, Dt.bulk]
      rcases List.mem_cons.1 hg with rfl | hg
      · omega
      · have := hm g hg; omega
theorem rows_arg {α : Type} {row : α → List V} {k : Nat} {xs : List Dt} {fs : List α} (hlen : fs.length = xs.length) (hfs : ∀ h, Dt.layR xs h = (fs.map row, h)) (h : H) :
    ((Dt.sl k xs).arg h).1 = .sl (some (h.nx, 0)) fs.length fs.length false ∧ rowsIn ((Dt.sl k xs).arg h).2 k (some (h.nx, 0)) fs.length (fs.map row) ∧ Kept h ((Dt.sl k xs).arg h).2 := by
  refine ⟨by simp only [Dt.arg, hfs, hlen], ?_, ?_⟩
  · simp only [Dt.arg, Dt.lay, hfs]
    refine ⟨by simp, ?_⟩
    cases xs with
    | nil => exact .inl (by simpa using hlen)
    | cons y ys => exact .inr ⟨h.nx, 0, fs.map row, true, rfl, by show h.nx < h.nx + 1; omega, by simp [H.get_push], fun i r hi => by rw [Nat.zero_add]; exact hi⟩
  · simp only [Dt.arg, Dt.lay, hfs]
    cases xs with
    | nil => exact ⟨Nat.le_succ _, fun b hb => rfl⟩
    | cons y ys => exact Kept.push Kept.refl
theorem fields_ofB {x : Dt} (hx : Dt.has fdsTy x) : ∃ fs : List Fd, fs.length ≤ Dt.bulk x ∧ (∀ f ∈ fs, f.n.length ≤ Dt.bulk x ∧ f.v.length ≤ Dt.bulk x) ∧ ∀ h, ∃ p cap ex, (x.arg h).1 = .sl p fs.length cap ex ∧ rowsIn (x.arg h).2 3 p fs.length (fs.map Fd.row) ∧ Kept h (x.arg h).2 := by
  cases x with
  | nl => exact ⟨[], Nat.zero_le _, (fun f hf => by cases hf), fun h => ⟨none, 0, true, rfl, ⟨rfl, .inl rfl⟩, Kept.refl⟩⟩
  | sl k xs =>
    simp only [Dt.has] at hx
    obtain ⟨rfl, hl, hA⟩ := hx
    obtain ⟨fs, hlen, hfs, hb, hm⟩ := fds_ofB hA
    refine ⟨fs, by simp only [Dt.bulk]; omega, fun f hf => ?_, fun h => ⟨_, _, _, rows_arg hlen hfs h⟩⟩
    have := hm f hf
    simp only [Dt.bulk]; omega
  | _ => simp [Dt.has] at hx
abbrev stsTy : Ty := .sl 2 (.st [.i .i64, .i .i64])
theorem st_of {d : Dt} (h : Dt.has (.st [.i .i64, .i .i64]) d) : ∃ s : St, d = .st [.i .i64 s.id, .i .i64 s.v] := by
  cases d with
  | st xs =>
    simp only [Dt.has] at h
    match xs, h with
    | [a, b], h =>
      simp only [Dt.hasL] at h
      obtain ⟨h1, h2, _⟩ := h
      obtain ⟨x, rfl, _⟩ := has_i h1
      obtain ⟨y, rfl, _⟩ := has_i h2
      exact ⟨⟨x, y⟩, rfl⟩
    | [], h => simp [Dt.hasL] at h
    | [a], h => simp [Dt.hasL] at h
    | a :: b :: c :: r, h => simp [Dt.hasL] at h
  | _ => simp [Dt.has] at h
theorem sts_ofB : ∀ {xs : List Dt}, Dt.hasA (.st [.i .i64, .i .i64]) xs → ∃ ss : List St, ss.length = xs.length ∧ (∀ h, Dt.layR xs h = (ss.map St.row, h)) ∧ ss.length ≤ Dt.bulkL xs
  | [], _ => ⟨[], rfl, fun h => by simp [Dt.layR], Nat.zero_le _⟩
  | x :: xs, h => by
    simp only [Dt.hasA] at h
    obtain ⟨s, rfl⟩ := st_of h.1
    obtain ⟨ss, hl, hss, hb⟩ := sts_ofB h.2
    refine ⟨s :: ss, by simp [hl], fun g => ?_, ?_⟩
    · simp only [Dt.layR, Dt.lay, Dt.layL, hss]
      rfl
    · simp only [List.length_cons, Dt.bulkL, Dt.bulk]; omega
theorem settings_ofB {x : Dt} (hx : Dt.has stsTy x) : ∃ ss : List St, ss.length ≤ Dt.bulk x ∧ ∀ h, ∃ p cap ex, (x.arg h).1 = .sl p ss.length cap ex ∧ rowsIn (x.arg h).2 2 p ss.length (ss.map St.row) ∧ Kept h (x.arg h).2 := by
  cases x with
  | nl => exact ⟨[], Nat.zero_le _, fun h => ⟨none, 0, true, rfl, ⟨rfl, .inl rfl⟩, Kept.refl⟩⟩
  | sl k xs =>
    simp only [Dt.has] at hx
    obtain ⟨rfl, hl, hA⟩ := hx
    obtain ⟨ss, hlen, hss, hb⟩ := sts_ofB hA
    exact ⟨ss, by simp only [Dt.bulk]; omega, fun h => ⟨_, _, _, rows_arg hlen hss h⟩⟩
  | _ => simp [Dt.has] at hx

end Am
