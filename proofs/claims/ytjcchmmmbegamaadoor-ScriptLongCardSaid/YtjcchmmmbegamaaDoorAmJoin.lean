/- AmJoin: strings.Join by the library's contract. -/
import Derived.Test.YtjcchmmmbegamaaDoorAmAll3
import Derived.Room.Shelf.Join48
namespace Am
set_option linter.unusedVariables false
set_option linter.unusedSimpArgs false
open Go (IntKind BinOp UnOp Value Program TypeId TypeDesc Operand Oper Code Tmp World Addr Obj Act Fence)
open Go.Proofs

/-- The strings in rows of one cell. -/
def strsOf : List (List V) → Option (List (List UInt8))
  | [] => some []
  | row :: r =>
    match row with
    | [.s x] => (strsOf r).map (x :: ·)
    | _ => none

theorem strsOf_get : ∀ {rs : List (List V)} {xs : List (List UInt8)}, strsOf rs = some xs → xs.length = rs.length ∧ ∀ (j : Nat) x, xs[j]? = some x → rs[j]? = some [.s x]
  | [], xs, h => by
    simp only [strsOf, Option.some.injEq] at h
    subst h
    exact ⟨rfl, fun j x hx => by simp at hx⟩
  | row :: r, xs, h => by
    unfold strsOf at h
    split at h
    · rename_i x
      obtain ⟨ys, hy, rfl⟩ := Option.map_eq_some_iff.1 h
      obtain ⟨h1, h2⟩ := strsOf_get hy
      refine ⟨by simp [h1], fun j z hz => ?_⟩
      cases j with
      | zero => simp at hz; subst hz; rfl
      | succ j => simp at hz ⊢; exact h2 j z hz
    · cases h

/-- Texts joined. -/
def joinS (xs : List (List UInt8)) (sep : List UInt8) : List UInt8 :=
  match xs with
  | [] => []
  | x :: r => x ++ (r.map (sep ++ ·)).flatten
theorem joinS_eq (xs : List (List UInt8)) (sep : List UInt8) : joinS xs sep = Go.Lib.join xs sep := by
  cases xs with
  | nil => rfl
  | cons x r => rw [Go.Lib.join_cons]; rfl

def xJoin (args : List V) (h : H) : Option (V × H) :=
  match args with
  | [.sl p n c ex, .s sep] =>
    if n = 0 then some (.s [], h) else
    match p with
    | some (b, r) =>
      match h.get b with
      | some (.rows 1 rs ro) =>
        match strsOf ((rs.drop r).take n) with
        | some xs => if xs.length = n ∧ n ≤ 140737488355328 ∧ (joinS xs sep).length ≤ 281474976710656 then some (.s (joinS xs sep), h) else none
        | none => none
      | _ => none
    | none => none
  | _ => none

theorem xJoin_ok {P : Program} {ρ : Go.Shelf.Ren} (L : Go.Proofs.Lays.n156 P ρ) (X : Builder.Extra P ρ) : ExtFor P (ρ.f 156) xJoin := by
  intro args h v h' hev B e w cargs F k hv s hF
  have hent : (Go.callFunc (ρ.f 156) cargs).run P w = .ok (.enter (ρ.f 156) cargs) w := Go.Proofs.enters_of L.f156 (by kernel_rfl) rfl cargs w
  rw [hent]
  simp only [InvPost]
  refine callsIn_of_calls hF ?_
  obtain ⟨ws⟩ := cargs
  unfold xJoin at hev
  split at hev
  · rename_i p n c ex sep
    cases hv with
    | cons _ u1 _ us1 h1 h2 =>
    cases h2 with
    | cons _ u2 _ us2 h3 h4 =>
    cases h4
    obtain ⟨sb, rfl, rfl⟩ := h3.s_inv
    split at hev
    · rename_i hn
      subst hn
      cases hev
      have hu : ∃ a c', u1 = .slice a 0 c' := by
        cases h1 with
        | sl0 => exact ⟨_, _, rfl⟩
        | sl => exact ⟨_, _, rfl⟩
      obtain ⟨a, c', rfl⟩ := hu
      refine (Any.strings_Join_none L X a c' sb w).mono ?_
      rintro E w' ⟨rfl, rfl⟩
      exact ⟨_, rfl, e, .s ⟨#[]⟩, Stp.refl s⟩
    · rename_i hn
      split at hev
      · rename_i b r
        split at hev
        · rename_i rs ro hb
          split at hev
          · rename_i xs hxs
            split at hev
            · rename_i hc
              obtain ⟨hlen, hbig, hjl⟩ := hc
              cases hev
              obtain ⟨hl1, hget⟩ := strsOf_get hxs
              cases h1 with
              | sl _ _ _ _ c' _ l a hl h1 h2 h3 h4 =>
                obtain ⟨rfl, hrc⟩ := h4 (by omega)
                obtain ⟨l', hl', hR, hlt, _⟩ := s.blk b _ hb
                rw [hl] at hl'; cases hl'
                obtain ⟨⟨hk, _, _⟩, hrow⟩ := hR
                have hcell : ∀ (j : Nat) x, xs[j]? = some x → ∃ bs : ByteArray, w.cell? ⟨l.cb, l.sh + r * l.k + j, none⟩ = some (.string bs) ∧ bs.data.toList = x := by
                  intro j x hj
                  have hj1 := hget j x hj
                  have hjn : j < n := by
                    have := (List.getElem?_eq_some_iff.1 hj).1
                    omega
                  rw [List.getElem?_take_of_lt hjn, List.getElem?_drop] at hj1
                  obtain ⟨_, hcs⟩ := hrow (r + j) _ hj1
                  obtain ⟨u, hu, hcr, _⟩ := hcs 0 (.s x) rfl
                  obtain ⟨bs, rfl, rfl⟩ := hcr.1.s_inv
                  refine ⟨bs, ?_, rfl⟩
                  have he : l.sh + r * l.k + j = l.sh + (r + j) * 1 + 0 := by rw [hk]; omega
                  rw [he]
                  exact hu
                have hbytes : ∃ bss : List ByteArray, bss.map (·.data.toList) = xs := ⟨xs.map (fun x => ⟨x.toArray⟩), by simp [Function.comp_def]⟩
                obtain ⟨bss, hbss⟩ := hbytes
                have hbl : bss.length = n := by rw [← hlen, ← hbss, List.length_map]
                have hcells : ∀ (j : Nat) x, bss[j]? = some x → w.cell? ⟨l.cb, l.sh + r * l.k + j, none⟩ = some (.string x) := by
                  intro j x hj
                  obtain ⟨bs, h5, h6⟩ := hcell j x.data.toList (by rw [← hbss, List.getElem?_map, hj]; rfl)
                  have : bs = x := by
                    cases bs; cases x
                    simp only [Array.toList_inj] at h6
                    subst h6; rfl
                  rw [h5, this]
                have hj := Any.strings_Join_48 L X l.cb (l.sh + r * l.k) c' bss sb w hcells hlt (by omega) (by omega) (by rw [hbss, ← joinS_eq]; exact hjl)
                rw [hbl] at hj
                refine hj.mono ?_
                rintro E w' ⟨rfl, hw⟩
                refine ⟨_, rfl, e, ?_, Stp.more s (fun c hc => hw.block c hc) hw.size ⟨hw.os, hw.tape, hw.output⟩⟩
                rw [hbss, ← joinS_eq]
                exact .s ⟨(joinS xs _).toArray⟩
            · cases hev
          · cases hev
        · cases hev
      · cases hev
  · cases hev

end Am
