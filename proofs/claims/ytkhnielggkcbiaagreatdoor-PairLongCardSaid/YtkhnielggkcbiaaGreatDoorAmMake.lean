/- AmMake: a call that looks at no block, run once by the kernel, at any heap: what it made is laid behind. -/
import Derived.Test.YtkhnielggkcbiaaGreatDoorAmGcB
namespace Am
set_option linter.all false
open Go (IntKind BinOp UnOp Value Program TypeId TypeDesc Operand Oper Code Tmp World Addr Obj Act Fence)
def pushAll : H → List Blk → H
  | h, [] => h
  | h, x :: xs => pushAll (h.push x) xs
theorem pushAll_nx : ∀ (xs : List Blk) (h : H), (pushAll h xs).nx = h.nx + xs.length
  | [], h => rfl
  | x :: xs, h => by
    show (pushAll (h.push x) xs).nx = _
    rw [pushAll_nx xs]
    show h.nx + 1 + xs.length = h.nx + (xs.length + 1); omega
theorem pushAll_get : ∀ (xs : List Blk) (h : H) (b : Nat), (pushAll h xs).get b = if h.nx ≤ b ∧ b < h.nx + xs.length then xs[b - h.nx]? else h.get b
  | [], h, b => by rw [if_neg (by simp only [List.length_nil]; omega)]; rfl
  | x :: xs, h, b => by
    show (pushAll (h.push x) xs).get b = _
    have e : (h.push x).nx = h.nx + 1 := rfl
    rw [pushAll_get xs, e, H.get_push]
    by_cases h1 : b = h.nx
    · subst h1
      rw [if_neg (by omega), if_pos rfl, if_pos ⟨Nat.le_refl _, by simp⟩, Nat.sub_self]; rfl
    · by_cases h2 : h.nx + 1 ≤ b ∧ b < h.nx + 1 + xs.length
      · have h3 : b - h.nx = (b - (h.nx + 1)) + 1 := by omega
        rw [if_pos h2, if_pos ⟨by omega, by simp; omega⟩, h3, List.getElem?_cons_succ]
      · rw [if_neg h2, if_neg h1, if_neg (by simp; omega)]
/-- The same place of what was made. -/
def MkR (n m k a b : Nat) : Prop := ∃ i, i < k ∧ a = n + i ∧ b = m + i
noncomputable def gMake (ys0 : List V) (v : Nat → V) (B : Nat → List Blk) (ys : List V) (h : H) : Option (V × H) :=
  open Classical in if ys = ys0 then some (v h.nx, pushAll h (B h.nx)) else none
theorem ExtFor.make {P : Program} {pr : Prog} (hp : ProgOk P pr) {f n k : Nat} {ys0 : List V} {v : Nat → V} {B : Nat → List Blk} {L : List Nat} (hx : pr.ext f = none) (hpl : V.plains ys0 = true)
    (hrun : runK pr n (.fn f) ys0 ⟨4096, .e⟩ (swept ⟨4096, .e⟩ (pushAll ⟨4096, .e⟩ (B 4096)) L (v 4096)) = true) (hk : ∀ m, (B m).length = k)
    (hrel : ∀ (m i : Nat) (x y : Blk), (B m)[i]? = some x → (B 4096)[i]? = some y → x.rel (MkR m 4096 k) y) (hv : ∀ m, (v m).rel (MkR m 4096 k) (v 4096)) : ExtFor P f (gMake ys0 v B) := by
  intro args h v' h' hev B0 e w cargs F kk hva s hF
  unfold gMake at hev
  split at hev
  · rename_i hy
    subst hy
    cases hev
    have hno : ∀ b x, (⟨4096, .e⟩ : H).get b = some x → False := fun b x hb => by simp [H.get, Tr.get] at hb
    have s0 : Sim (CC P) B0 (glOf P) ⟨4096, .e⟩ w := ⟨fun b x hb => (hno b x hb).elim, fun b _ x _ _ _ hb => (hno b x hb).elim, fun b l h => glOf_lt h, s.low, fun _ _ h => h, .no hno⟩
    obtain ⟨v1, h1, hr, hs⟩ := runK_true pr n _ _ _ _ hrun
    have hva0 : VRL (glOf P) args cargs.toList := VRL.plain hva hpl
    cases n with
    | zero => cases hr
    | succ n =>
      simp only [runN, evCal, hx] at hr
      cases hf : pr.fn f with
      | none => rw [hf] at hr; cases hr
      | some af =>
        rw [hf] at hr
        obtain ⟨fn, hP, hc⟩ := hp.fn f af hf
        have hR := run_sound hp n
        obtain ⟨h2, _⟩ := fn_sound hR (hp.draw _ hR) n hP hc hr (F := F) kk hva0 s0 hF
        refine InvPost.mono h2 ?_
        rintro u w' ⟨e1, hu, st1⟩
        obtain ⟨e2, hu2, st⟩ := swept_abs hs (CC P) B0 (glOf P) e1 w w' u s0 hu st1
        have noOwn : ∀ c, ¬ Owns (glOf P) ⟨4096, .e⟩ c := by rintro c ⟨b, x, l, hb, _⟩; exact hno b x hb
        have noImg : ∀ c, ¬ Img (glOf P) ⟨4096, .e⟩ c := by rintro c ⟨b, x, l, hb, _⟩; exact hno b x hb
        have keep : ∀ c, c < w.heap.size → w'.heap[c]? = w.heap[c]? := fun c hc => st.keep c hc (noOwn c)
        let e3 : Emb := fun b => if b < h.nx then e b else if b < h.nx + k then e2 (4096 + (b - h.nx)) else none
        have eo : ∀ b, b < h.nx → e3 b = e b := fun b hb => by simp only [e3]; rw [if_pos hb]
        have en : ∀ b, h.nx ≤ b → b < h.nx + k → e3 b = e2 (4096 + (b - h.nx)) := fun b hb hb' => by simp only [e3]; rw [if_neg (by omega), if_pos hb']
        have le : e.le e3 := fun b l hb => by rw [eo b (s.dom b l hb)]; exact hb
        have hRR : ∀ a b, MkR h.nx 4096 k a b → ∀ l, e2 b = some l → e3 a = some l := by
          rintro a b ⟨i, hi, rfl, rfl⟩ l hl
          rw [en _ (by omega) (by omega), show h.nx + i - h.nx = i from by omega]; exact hl
        have nxe : (pushAll h (B h.nx)).nx = h.nx + k := by rw [pushAll_nx, hk]
        -- a block of the heap: an elder one, or one that was made
        have at1 : ∀ b x, (pushAll h (B h.nx)).get b = some x → (b < h.nx ∧ h.get b = some x) ∨ ∃ i y l, i < k ∧ b = h.nx + i ∧ (pushAll ⟨4096, .e⟩ (B 4096)).get (4096 + i) = some y ∧ x.rel (MkR h.nx 4096 k) y ∧ e2 (4096 + i) = some l ∧ e3 b = some l ∧ BlkR (CC P) e3 x l w' ∧ x.own = y.own := by
          intro b x hb
          rw [pushAll_get, hk] at hb
          split at hb
          · rename_i hlt
            refine .inr ?_
            have hi : b - h.nx < (B 4096).length := by rw [hk]; omega
            have hy : (pushAll ⟨4096, .e⟩ (B 4096)).get (4096 + (b - h.nx)) = some (B 4096)[b - h.nx] := by
              rw [pushAll_get, hk, if_pos ⟨by show 4096 ≤ _; omega, by show _ < 4096 + k; omega⟩]
              show (B 4096)[4096 + (b - h.nx) - 4096]? = _
              rw [Nat.add_sub_cancel_left, List.getElem?_eq_getElem hi]
            have hr := hrel h.nx (b - h.nx) x _ hb (List.getElem?_eq_getElem hi)
            obtain ⟨l, hl, rr, _⟩ := st.sim.blk _ _ hy
            exact ⟨b - h.nx, _, l, by omega, by omega, hy, hr, hl, by rw [en b (by omega) (by omega)]; exact hl, rr.rel hRR hr, Blk.rel_own hr⟩
          · exact .inl ⟨s.lt hb, hb⟩
        have big : ∀ i y l, (pushAll ⟨4096, .e⟩ (B 4096)).get (4096 + i) = some y → e2 (4096 + i) = some l → w.heap.size ≤ l.cb ∧ l.cb < w'.heap.size := by
          intro i y l hy hl
          obtain ⟨l', hl', _, hlt, _⟩ := st.sim.blk _ _ hy
          rw [hl] at hl'; cases hl'
          refine ⟨?_, hlt⟩
          rcases st.img l.cb ⟨_, y, l, hy, hl, rfl⟩ with h | h
          · exact h
          · exact (noImg _ h).elim
        have small : ∀ b x l, h.get b = some x → e b = some l → l.cb < w.heap.size := by
          intro b x l hb hl
          obtain ⟨l', hl', _, hlt, _⟩ := s.blk b x hb
          rw [hl] at hl'; cases hl'
          exact hlt
        refine ⟨e3, hu2.rel hRR (hv h.nx), ⟨le, ⟨?_, ?_, ?_, Nat.le_trans s.low st.grow, fun b l hb => le _ _ (s.gl b l hb), ?_⟩, ?_, ?_, fun c hc _ => keep c hc, st.grow, by rw [nxe]; omega, st.sky⟩⟩
        · intro b x hb
          rcases at1 b x hb with ⟨hlt, hg⟩ | ⟨i, y, l, hi, rfl, hy, hr, hl, hl3, rr, ho⟩
          · obtain ⟨l, hl, rr, hcb, hB⟩ := s.blk b x hg
            exact ⟨l, le _ _ hl, (rr.of_heap (keep _ hcb)).mono le, Nat.lt_of_lt_of_le hcb st.grow, hB⟩
          · have hb := big i y l hy hl
            exact ⟨l, hl3, rr, hb.2, fun _ => Nat.le_trans s.low hb.1⟩
        · intro b b' x x' l l' hb hb' ho hne hl hl'
          rcases at1 b x hb with ⟨hlt, hg⟩ | ⟨i, y, m, hi, rfl, hy, hr, hm, hm3, rr, hoy⟩ <;> rcases at1 b' x' hb' with ⟨hlt', hg'⟩ | ⟨i', y', m', hi', rfl, hy', hr', hm', hm3', rr', hoy'⟩
          · rw [eo _ hlt] at hl; rw [eo _ hlt'] at hl'
            exact s.inj b b' x x' l l' hg hg' ho hne hl hl'
          · rw [eo _ hlt] at hl; rw [hm3'] at hl'; cases hl'
            have := small b x l hg hl
            have := (big i' y' _ hy' hm').1
            omega
          · rw [hm3] at hl; cases hl; rw [eo _ hlt'] at hl'
            have := small b' x' l' hg' hl'
            have := (big i y _ hy hm).1
            omega
          · rw [hm3] at hl; cases hl; rw [hm3'] at hl'; cases hl'
            exact st.sim.inj _ _ y y' _ _ hy hy' (by rw [← hoy]; exact ho) (by omega) hm hm'
        · intro b l hb
          rw [nxe]
          by_cases h1 : b < h.nx
          · omega
          · by_cases h2 : b < h.nx + k
            · exact h2
            · simp only [e3] at hb; rw [if_neg h1, if_neg h2] at hb; cases hb
        · refine s.tab.of fun b l x hl hb => ?_
          have hlt := s.gl_lt hl
          rcases at1 b x hb with ⟨_, hg⟩ | ⟨i, y, m, hi, rfl, _⟩
          · exact ⟨hg, keep _ (s.gl_at hl hg)⟩
          · omega
        · rintro c ⟨b, x, l, hb, ho, hl, rfl⟩
          rcases at1 b x hb with ⟨hlt, hg⟩ | ⟨i, y, m, hi, rfl, hy, hr, hm, hm3, rr, hoy⟩
          · rw [eo _ hlt] at hl; exact .inr ⟨b, x, l, hg, ho, hl, rfl⟩
          · rw [hm3] at hl; cases hl; exact .inl (big i y _ hy hm).1
        · rintro c ⟨b, x, l, hb, hl, rfl⟩
          rcases at1 b x hb with ⟨hlt, hg⟩ | ⟨i, y, m, hi, rfl, hy, hr, hm, hm3, rr, hoy⟩
          · rw [eo _ hlt] at hl; exact .inr ⟨b, x, l, hg, hl, rfl⟩
          · rw [hm3] at hl; cases hl; exact .inl (big i y _ hy hm).1
  · cases hev
end Am
