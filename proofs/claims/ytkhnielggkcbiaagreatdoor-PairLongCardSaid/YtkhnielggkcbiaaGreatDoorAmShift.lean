/- AmShift: a call on an object whose blocks lie one behind the other, run once by the kernel at one place, wherever the object lies in whatever heap. -/
import Derived.Test.YtkhnielggkcbiaaGreatDoorAmMake
import Derived.Test.YtkhnielggkcbiaaGreatDoorAmRl
namespace Am
set_option linter.all false
open Go (IntKind BinOp UnOp Value Program TypeId TypeDesc Operand Oper Code Tmp World Addr Obj Act Fence)
/-- Blocks written over those that lie at a place. -/
def layAll : H → Nat → List Blk → H
  | h, _, [] => h
  | h, n, x :: xs => layAll (h.set n x) (n + 1) xs
theorem layAll_nx : ∀ (xs : List Blk) (h : H) (n : Nat), (layAll h n xs).nx = h.nx
  | [], h, n => rfl
  | x :: xs, h, n => by show (layAll (h.set n x) (n + 1) xs).nx = _; rw [layAll_nx xs]; rfl
theorem layAll_get : ∀ (xs : List Blk) (h : H) (n b : Nat), (layAll h n xs).get b = if n ≤ b ∧ b < n + xs.length then xs[b - n]? else h.get b
  | [], h, n, b => by rw [if_neg (by simp only [List.length_nil]; omega)]; rfl
  | x :: xs, h, n, b => by
    show (layAll (h.set n x) (n + 1) xs).get b = _
    rw [layAll_get xs, H.get_set]
    by_cases h1 : b = n
    · subst h1
      rw [if_neg (by omega), if_pos rfl, if_pos ⟨Nat.le_refl _, by simp⟩, Nat.sub_self]; rfl
    · by_cases h2 : n + 1 ≤ b ∧ b < n + 1 + xs.length
      · have h3 : b - n = (b - (n + 1)) + 1 := by omega
        rw [if_pos h2, if_pos ⟨by omega, by simp; omega⟩, h3, List.getElem?_cons_succ]
      · rw [if_neg h2, if_neg h1, if_neg (by simp; omega)]
/-- An object's blocks lie at a place. -/
def ObjAt (h : H) (off : Nat) (xs : List Blk) : Prop := off + xs.length ≤ h.nx ∧ ∀ i x, xs[i]? = some x → h.get (off + i) = some x
/-- A call on an object: its arguments, its blocks, what is answered, the blocks behind it. -/
def ShiftR {D : Type} (ok : D → Prop) (A : D → Nat → List V) (Bs : D → Nat → List Blk) (v : D → Nat → V) (Bt : D → Nat → List Blk) : Rl := fun ys h w h' =>
  ∃ d off, ok d ∧ 4096 ≤ off ∧ ObjAt h off (Bs d off) ∧ ys = A d off ∧ w = v d off ∧ h' = layAll h off (Bt d off)
theorem shift_one {D : Type} {ok : D → Prop} {A : D → Nat → List V} {Bs Bt : D → Nat → List Blk} {v : D → Nat → V} {k : Nat} (hk : ∀ d m, (Bs d m).length = k) (hA : ∀ d d' m m', A d m = A d' m' → m = m') (hB : ∀ d d' m, Bs d m = Bs d' m → A d m = A d' m → v d m = v d' m ∧ Bt d m = Bt d' m) : (ShiftR ok A Bs v Bt).One := by
  rintro ys h w h' w' h'' ⟨d, off, _, _, ⟨_, ho⟩, rfl, rfl, rfl⟩ ⟨d', off', _, _, ⟨_, ho'⟩, e, rfl, rfl⟩
  have := hA _ _ _ _ e
  subst this
  have hb : Bs d off = Bs d' off := by
    refine List.ext_getElem (by rw [hk, hk]) fun i h1 h2 => ?_
    have a := ho i _ (List.getElem?_eq_getElem h1)
    have b := ho' i _ (List.getElem?_eq_getElem h2)
    rw [a] at b
    exact Option.some.inj b
  obtain ⟨q1, q2⟩ := hB d d' off hb e
  rw [q1, q2]; exact ⟨rfl, rfl⟩
theorem ExtFor.shift {P : Program} {pr : Prog} (hp : ProgOk P pr) {f n k : Nat} {D : Type} {ok : D → Prop} {A : D → Nat → List V} {Bs Bt : D → Nat → List Blk} {v : D → Nat → V} (hx : pr.ext f = none)
    (hrun : ∀ d, ok d → ∃ v1 h1, runN pr n (.fn f) (A d 4096) (pushAll ⟨4096, .e⟩ (Bs d 4096)) = some (v1, h1) ∧ Abs (pushAll ⟨4096, .e⟩ (Bs d 4096)) v1 h1 (v d 4096) (pushAll ⟨4096, .e⟩ (Bt d 4096)))
    (hk : ∀ d m, (Bs d m).length = k) (hk' : ∀ d m, (Bt d m).length = k)
    (hrel : ∀ d (m m' i : Nat) (x y : Blk), (Bs d m)[i]? = some x → (Bs d m')[i]? = some y → x.rel (MkR m m' k) y) (hrel' : ∀ d (m m' i : Nat) (x y : Blk), (Bt d m)[i]? = some x → (Bt d m')[i]? = some y → x.rel (MkR m m' k) y)
    (hA : ∀ d m m', V.rels (MkR m m' k) (A d m) (A d m')) (hv : ∀ d m m', (v d m).rel (MkR m m' k) (v d m')) : ExtFor P f (gRl (ShiftR ok A Bs v Bt)) := by
  intro args h v' h' hev B0 e w cargs F kk hva s hF
  obtain ⟨d, off, hd, hoff, ⟨hfit, hobj⟩, rfl, rfl, rfl⟩ := gRl_inv hev
  rw [hk] at hfit
  have gG : ∀ b, (pushAll ⟨4096, .e⟩ (Bs d 4096)).get b = if 4096 ≤ b ∧ b < 4096 + k then (Bs d 4096)[b - 4096]? else none := fun b => by rw [pushAll_get, hk]; rfl
  have gT : ∀ b, (pushAll ⟨4096, .e⟩ (Bt d 4096)).get b = if 4096 ≤ b ∧ b < 4096 + k then (Bt d 4096)[b - 4096]? else none := fun b => by rw [pushAll_get, hk']; rfl
  have nG : (pushAll ⟨4096, .e⟩ (Bs d 4096)).nx = 4096 + k := by rw [pushAll_nx, hk]
  obtain ⟨v1, h1, hr, ha⟩ := hrun d hd
  generalize hG : pushAll ⟨4096, .e⟩ (Bs d 4096) = G at *
  generalize hT : pushAll ⟨4096, .e⟩ (Bt d 4096) = GT at *
  let e0 : Emb := fun b => if b < 4096 then e b else if b < 4096 + k then e (off + (b - 4096)) else none
  have e0i : ∀ i, i < k → e0 (4096 + i) = e (off + i) := fun i hi => by simp only [e0]; rw [if_neg (by omega), if_pos (by omega), Nat.add_sub_cancel_left]
  -- a block of the object
  have atG : ∀ b x, G.get b = some x → ∃ i y l, i < k ∧ b = 4096 + i ∧ h.get (off + i) = some y ∧ (Bs d off)[i]? = some y ∧ x.rel (MkR 4096 off k) y ∧ x.own = y.own ∧ e (off + i) = some l ∧ BlkR (CC P) e y l w ∧ l.cb < w.heap.size ∧ (y.own = true → B0 ≤ l.cb) := by
    intro b x hb
    rw [gG] at hb
    split at hb
    · rename_i hlt
      have hi : b - 4096 < (Bs d off).length := by rw [hk]; omega
      have hy := List.getElem?_eq_getElem hi
      have hg := hobj _ _ hy
      obtain ⟨l, hl, rr, hcb, hB⟩ := s.blk _ _ hg
      have hr := hrel d 4096 off _ _ _ hb hy
      exact ⟨b - 4096, _, l, by omega, by omega, hg, hy, hr, Blk.rel_own hr, hl, rr, hcb, hB⟩
    · cases hb
  have hRG : ∀ a b, MkR 4096 off k a b → ∀ l, e b = some l → e0 a = some l := by
    rintro a b ⟨i, hi, rfl, rfl⟩ l hl
    rw [e0i i hi]; exact hl
  have s0 : Sim (CC P) B0 e0 G w := by
    refine ⟨fun b x hb => ?_, fun b b' x x' l l' hb hb' ho hne hl hl' => ?_, fun b l hb => ?_, s.low, fun b l hb => ?_, ?_⟩
    · obtain ⟨i, y, l, hi, rfl, hg, _, hr, ho, hl, rr, hcb, hB⟩ := atG b x hb
      exact ⟨l, by rw [e0i i hi]; exact hl, rr.rel hRG hr, hcb, fun q => hB (by rw [← ho]; exact q)⟩
    · obtain ⟨i, y, m, hi, rfl, hg, _, hr, hoy, hm, _⟩ := atG b x hb
      obtain ⟨i', y', m', hi', rfl, hg', _, hr', hoy', hm', _⟩ := atG b' x' hb'
      rw [e0i i hi] at hl; rw [e0i i' hi'] at hl'
      exact s.inj _ _ y y' l l' hg hg' (by rw [← hoy]; exact ho) (by omega) hl hl'
    · rw [nG]
      simp only [e0] at hb
      split at hb
      · omega
      · split at hb
        · assumption
        · cases hb
    · simp only [e0]
      rw [if_pos (glOf_lt hb)]; exact s.gl b l hb
    · refine s.tab.of fun b l x hl hb => ?_
      obtain ⟨i, _, _, _, rfl, _⟩ := atG b x hb
      have := glOf_lt hl
      omega
  have hva0 : VRL e0 (A d 4096) cargs.toList := VRL.rel hRG hva (hA d 4096 off)
  cases n with
  | zero => cases hr
  | succ n =>
    simp only [runN, evCal, hx] at hr
    cases hf : pr.fn f with
    | none => rw [hf] at hr; cases hr
    | some af =>
      rw [hf] at hr
      obtain ⟨fn, hP, hc⟩ := hp.fn f af hf
      have hR := run_sound hp n
      obtain ⟨h2, _⟩ := fn_sound hR (hp.draw _ hR) n hP hc hr (F := F) kk hva0 s0 hF
      refine InvPost.mono h2 ?_
      rintro u w' ⟨e1, hu, st1⟩
      obtain ⟨e2, hu2, st⟩ := ha (CC P) B0 e0 e1 w w' u s0 hu st1
      -- the object's blocks lie where they lay
      have e2i : ∀ i, i < k → ∀ l, e2 (4096 + i) = some l → e (off + i) = some l := by
        intro i hi l hl
        have hlt : i < (Bs d off).length := by rw [hk]; exact hi
        obtain ⟨l0, hl0, _⟩ := s.blk _ _ (hobj i _ (List.getElem?_eq_getElem hlt))
        have := st.le (4096 + i) l0 (by rw [e0i i hi]; exact hl0)
        rw [hl] at this
        rw [hl0, ← this]
      have hRR : ∀ a b, MkR off 4096 k a b → ∀ l, e2 b = some l → e a = some l := by
        rintro a b ⟨i, hi, rfl, rfl⟩ l hl
        exact e2i i hi l hl
      have hT' : ∀ b x, (layAll h off (Bt d off)).get b = some x → (∃ i y l, i < k ∧ b = off + i ∧ GT.get (4096 + i) = some y ∧ x.own = y.own ∧ e2 (4096 + i) = some l ∧ e b = some l ∧ BlkR (CC P) e x l w' ∧ l.cb < w'.heap.size ∧ (x.own = true → B0 ≤ l.cb)) ∨ ((∀ i, i < k → b ≠ off + i) ∧ h.get b = some x) := by
        intro b x hb
        rw [layAll_get, hk'] at hb
        split at hb
        · rename_i hlt
          have hi : b - off < (Bt d 4096).length := by rw [hk']; omega
          have hy := List.getElem?_eq_getElem hi
          have hg : GT.get (4096 + (b - off)) = some (Bt d 4096)[b - off] := by
            rw [gT, if_pos (by omega), Nat.add_sub_cancel_left]; exact hy
          obtain ⟨l, hl, rr, hcb, hB⟩ := st.sim.blk _ _ hg
          have hr := hrel' d off 4096 _ _ _ hb hy
          have hl2 := e2i (b - off) (by omega) l hl
          rw [show off + (b - off) = b from by omega] at hl2
          exact .inl ⟨b - off, _, l, by omega, by omega, hg, Blk.rel_own hr, hl, hl2, rr.rel hRR hr, hcb, fun q => hB (by rw [← Blk.rel_own hr]; exact q)⟩
        · exact .inr ⟨fun i hi q => by omega, hb⟩
      have ownG : ∀ c, Owns e0 G c → ∃ i y l, i < k ∧ h.get (off + i) = some y ∧ y.own = true ∧ e (off + i) = some l ∧ l.cb = c := by
        rintro c ⟨b, x, l, hb, ho, hl, rfl⟩
        obtain ⟨i, y, m, hi, rfl, hg, _, _, hoy, hm, _⟩ := atG b x hb
        rw [e0i i hi] at hl
        exact ⟨i, y, l, hi, hg, by rw [← hoy]; exact ho, hl, rfl⟩
      have keep : ∀ b x l, h.get b = some x → (∀ i, i < k → b ≠ off + i) → e b = some l → l.cb < w.heap.size → w'.heap[l.cb]? = w.heap[l.cb]? := by
        intro b x l hb hne hl hlt
        refine st.keep _ hlt fun hO => ?_
        obtain ⟨i, y, m, hi, hg, ho, hm, hc⟩ := ownG _ hO
        exact s.inj _ _ y x m l hg hb ho (fun q => hne i hi q.symm) hm hl hc
      refine ⟨e, hu2.rel hRR (hv d off 4096), ⟨Emb.le_refl _, ⟨?_, ?_, ?_, Nat.le_trans s.low st.grow, s.gl, ?_⟩, ?_, ?_, ?_, st.grow, by rw [layAll_nx]; exact Nat.le_refl _, st.sky⟩⟩
      · intro b x hb
        rcases hT' b x hb with ⟨i, y, l, hi, rfl, hy, _, _, hl, rr, hcb, hB⟩ | ⟨hne, hg⟩
        · exact ⟨l, hl, rr, hcb, hB⟩
        · obtain ⟨l, hl, rr, hcb, hB⟩ := s.blk b x hg
          exact ⟨l, hl, rr.of_heap (keep b x l hg hne hl hcb), Nat.lt_of_lt_of_le hcb st.grow, hB⟩
      · intro b b' x x' l l' hb hb' ho hne hl hl'
        rcases hT' b x hb with ⟨i, y, m, hi, rfl, hy, hoy, hm2, hm, rr, hcb, hB⟩ | ⟨hnb, hg⟩ <;> rcases hT' b' x' hb' with ⟨i', y', m', hi', rfl, hy', hoy', hm2', hm', rr', hcb', hB'⟩ | ⟨hnb', hg'⟩
        · rw [hm] at hl; have q1 := Option.some.inj hl; subst q1; rw [hm'] at hl'; have q2 := Option.some.inj hl'; subst q2
          exact st.sim.inj _ _ y y' _ _ hy hy' (by rw [← hoy]; exact ho) (by omega) hm2 hm2'
        · rw [hm] at hl; have q1 := Option.some.inj hl; subst q1
          obtain ⟨l0, hl0, _, hlt0, _⟩ := s.blk b' x' hg'
          rw [hl'] at hl0; cases hl0
          intro q
          rcases st.own m.cb ⟨_, y, m, hy, by rw [← hoy]; exact ho, hm2, rfl⟩ with h | h
          · omega
          · obtain ⟨j, z, p, hj, hgj, hoj, hpj, hc⟩ := ownG _ h
            exact s.inj _ _ z x' p l' hgj hg' hoj (fun q => hnb' j hj q.symm) hpj hl' (by rw [hc]; exact q)
        · rw [hm'] at hl'; have q1 := Option.some.inj hl'; subst q1
          have hlt : i' < (Bs d off).length := by rw [hk]; exact hi'
          exact s.inj _ _ x _ l m' hg (hobj i' _ (List.getElem?_eq_getElem hlt)) ho (hnb i' hi') hl hm'
        · exact s.inj _ _ x x' l l' hg hg' ho hne hl hl'
      · intro b l hb
        rw [layAll_nx]; exact s.dom b l hb
      · refine s.tab.of fun b l x hl hb => ?_
        have hlt := glOf_lt hl
        rcases hT' b x hb with ⟨i, y, m, hi, rfl, _⟩ | ⟨hne, hg⟩
        · omega
        · exact ⟨hg, keep b x l hg hne (s.gl b l hl) (s.gl_at hl hg)⟩
      · rintro c ⟨b, x, l, hb, ho, hl, rfl⟩
        rcases hT' b x hb with ⟨i, y, m, hi, rfl, hy, hoy, hm2, hm, rr, hcb, hB⟩ | ⟨hnb, hg⟩
        · rw [hm] at hl; have q1 := Option.some.inj hl; subst q1
          rcases st.own m.cb ⟨_, y, m, hy, by rw [← hoy]; exact ho, hm2, rfl⟩ with h | h
          · exact .inl h
          · obtain ⟨j, z, p, hj, hgj, hoj, hpj, hc⟩ := ownG _ h
            exact .inr ⟨_, z, p, hgj, hoj, hpj, hc⟩
        · exact .inr ⟨b, x, l, hg, ho, hl, rfl⟩
      · rintro c ⟨b, x, l, hb, hl, rfl⟩
        rcases hT' b x hb with ⟨i, y, m, hi, rfl, _⟩ | ⟨hnb, hg⟩
        · have hlt : i < (Bs d off).length := by rw [hk]; exact hi
          exact .inr ⟨_, _, l, hobj i _ (List.getElem?_eq_getElem hlt), hl, rfl⟩
        · exact .inr ⟨b, x, l, hg, hl, rfl⟩
      · intro c hc hO
        refine st.keep c hc fun hq => hO ?_
        obtain ⟨j, z, p, hj, hgj, hoj, hpj, hcc⟩ := ownG _ hq
        exact ⟨_, z, p, hgj, hoj, hpj, hcc⟩
/-- An object's blocks behind a call: all else is as it was. -/
theorem Abs.obj {h h1 : H} {off k : Nat} {xs : List Blk} {v w : V} (hl : xs.length = k) (hfit : off + k ≤ h.nx) (halive : ∀ i, i < k → (h.get (off + i)).isSome = true) (hrel : ∀ (i : Nat) (x : Blk), xs[i]? = some x → x.rel (MkR off off k) x) (h1o : ∀ (i : Nat) (x : Blk), xs[i]? = some x → h1.get (off + i) = some x)
    (hout : ∀ b x, b < h.nx → (∀ i, i < k → b ≠ off + i) → h.get b = some x → h1.get b = some x) (hv : v.rel (GcR h (layAll h off xs) (fun b => b)) w) : Abs h w h1 v (layAll h off xs) := by
  have hm : ∀ a d, MkR off off k a d → GcR h (layAll h off xs) (fun b => b) a d := by
    rintro a d ⟨i, hi, rfl, rfl⟩
    exact .inl ⟨by omega, rfl, halive i hi⟩
  refine Abs.gc (σ := fun b => b) (fun hlow => ⟨by rw [layAll_nx]; exact Nat.le_refl _, ?_, ?_, ?_⟩) hv
  · intro b x hb hx
    rw [layAll_get, hl] at hx
    split at hx
    · rename_i hlt
      have e : off + (b - off) = b := by omega
      refine ⟨by rw [← e]; exact halive _ (by omega), .inr ⟨x, by rw [← e]; exact h1o _ _ hx, Blk.rel_mono hm (hrel _ _ hx)⟩⟩
    · exact ⟨by rw [hx]; rfl, .inl ⟨hx, hout b x hb (fun i hi q => by omega) hx⟩⟩
  · intro b x hb hx
    rw [layAll_get, hl] at hx
    split at hx
    · omega
    · have := hlow b x hx; omega
  · intro b c x y hx hy he
    have e : ∀ b, gcN h (fun b => b) b = b := fun b => by unfold gcN; split <;> rfl
    rw [e, e] at he; exact he
theorem Abs.back {h h1 : H} {v : V} (hk : ∀ b x, h.get b = some x → h1.get b = some x) (hv : v.rel (GcR h h (fun b => b)) v) : Abs h v h1 v h := by
  refine Abs.gc (σ := fun b => b) (fun hlow => ⟨Nat.le_refl _, fun b x hb hx => ⟨by rw [hx]; rfl, .inl ⟨hx, hk b x hx⟩⟩, fun b x hb hx => by have := hlow b x hx; omega, ?_⟩) hv
  intro b c x y hx hy he
  have e : ∀ b, gcN h (fun b => b) b = b := fun b => by unfold gcN; split <;> rfl
  rw [e, e] at he; exact he
/-- The blocks that lie one behind the other, for the kernel. -/
noncomputable def lookN (t : Tr Blk) : Nat → Nat → List (Option Blk) := @Nat.rec (fun _ => Nat → List (Option Blk)) (fun _ => []) (fun _ ih n => getK t n :: ih (Nat.succ n))
theorem lookN_get {t : Tr Blk} : ∀ (k n i : Nat), i < k → (lookN t k n)[i]? = some (t.get (n + i))
  | 0, n, i, h => by omega
  | k + 1, n, i, h => by
    show (getK t n :: lookN t k (n + 1))[i]? = _
    cases i with
    | zero => rw [getK_eq]; rfl
    | succ i =>
      rw [List.getElem?_cons_succ, lookN_get k (n + 1) i (by omega), show n + 1 + i = n + (i + 1) from by omega]
theorem of_lookN {pr : Prog} {n k : Nat} {f : Nat} {ys : List V} {g0 : H} {xs : List Blk} {w : V} (hl : xs.length = k) (hk : ∀ K : List (Option Blk) → V → Bool, runK pr n (.fn f) ys g0 (fun v g => K (lookN g.tr k 4096) v) = K (xs.map some) w) :
    ∃ v1 h1, runN pr n (.fn f) ys g0 = some (v1, h1) ∧ v1 = w ∧ ∀ i x, xs[i]? = some x → h1.get (4096 + i) = some x := by
  open Classical in
  have h := hk (fun l v => decide (l = xs.map some ∧ v = w))
  simp only [and_self, decide_true] at h
  obtain ⟨v, g, hv, hq⟩ := runK_true pr n _ _ _ _ h
  obtain ⟨q1, q2⟩ := of_decide_eq_true hq
  refine ⟨v, g, hv, q2, fun i x hx => ?_⟩
  have hi : i < k := by rw [← hl]; exact (List.getElem?_eq_some_iff.1 hx).1
  have a := lookN_get (t := g.tr) k 4096 i hi
  rw [q1, List.getElem?_map, hx] at a
  exact (Option.some.inj a).symm
end Am
