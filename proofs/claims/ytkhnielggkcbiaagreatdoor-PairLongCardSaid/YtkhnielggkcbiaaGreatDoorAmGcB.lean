/- AmGcB: that a heap is another one, swept, is checked by the kernel; a contract out of a kernel's run. -/
import Derived.Test.YtkhnielggkcbiaaGreatDoorAmGc
import Derived.Test.YtkhnielggkcbiaaGreatDoorAmLit
namespace Am
set_option linter.all false
open Go (IntKind BinOp UnOp Value Program)

theorem eqIK_yes : ∀ {a b : Int}, eqIK a b = true → a = b
  | .ofNat a, .ofNat b, h => by have h : Nat.beq a b = true := h; rw [Nat.eq_of_beq_eq_true h]
  | .ofNat a, .negSucc b, h => by cases h
  | .negSucc a, .ofNat b, h => by cases h
  | .negSucc a, .negSucc b, h => by have h : Nat.beq a b = true := h; rw [Nat.eq_of_beq_eq_true h]
theorem eqB_yes : ∀ {a b : Bool}, eqB a b = true → a = b
  | true, true, _ => rfl
  | false, false, _ => rfl
  | true, false, h => by cases h
  | false, true, h => by cases h
theorem eqS_yes {a b : List UInt8} (h : eqS a b = true) : a = b := by rw [eqS_eq] at h; exact of_decide_eq_true h
/-- Cells that may be compared. -/
noncomputable def relB (R : Nat → Nat → Bool) (v w : V) : Bool :=
  match v, w with
  | .b x, .b y => eqB x y
  | .i k n, .i k' n' => decide (k = k') && eqIK n n'
  | .s x, .s y => eqS x y
  | .p none, .p none => true
  | .p (some (a, r, o)), .p (some (a', r', o')) => R a a' && Nat.beq r r' && Nat.beq o o'
  | .sl none n c e, .sl none n' c' e' => Nat.beq n n' && Nat.beq c c' && eqB e e'
  | .sl (some (a, r)) n c e, .sl (some (a', r')) n' c' e' => R a a' && Nat.beq r r' && Nat.beq n n' && Nat.beq c c' && eqB e e'
  | .m none, .m none => true
  | .m (some a), .m (some a') => R a a'
  | .nf, .nf => true
  | .nifc, .nifc => true
  | _, _ => false
theorem relB_yes {R : Nat → Nat → Bool} {v w : V} (h : relB R v w = true) : V.rel (fun a b => R a b = true) v w := by
  unfold relB at h
  split at h
  · exact eqB_yes h
  · rw [Bool.and_eq_true] at h; exact ⟨of_decide_eq_true h.1, eqIK_yes h.2⟩
  · exact eqS_yes h
  · trivial
  · simp only [Bool.and_eq_true] at h; exact ⟨h.1.1, Nat.eq_of_beq_eq_true h.1.2, Nat.eq_of_beq_eq_true h.2⟩
  · simp only [Bool.and_eq_true] at h; exact ⟨Nat.eq_of_beq_eq_true h.1.1, Nat.eq_of_beq_eq_true h.1.2, eqB_yes h.2⟩
  · simp only [Bool.and_eq_true] at h; exact ⟨h.1.1.1.1, Nat.eq_of_beq_eq_true h.1.1.1.2, Nat.eq_of_beq_eq_true h.1.1.2, Nat.eq_of_beq_eq_true h.1.2, eqB_yes h.2⟩
  · trivial
  · exact h
  · trivial
  · trivial
  · cases h
noncomputable def relsB (R : Nat → Nat → Bool) : List V → List V → Bool :=
  @List.rec V (fun _ => List V → Bool) (fun ws => @List.rec V (fun _ => Bool) true (fun _ _ _ => false) ws) (fun v _ ih ws => @List.rec V (fun _ => Bool) false (fun w ws _ => relB R v w && ih ws) ws)
theorem relsB_yes {R : Nat → Nat → Bool} : ∀ {vs ws : List V}, relsB R vs ws = true → V.rels (fun a b => R a b = true) vs ws
  | [], [], _ => trivial
  | [], _ :: _, h => by cases h
  | _ :: _, [], h => by cases h
  | v :: vs, w :: ws, h => by
    have h : (relB R v w && relsB R vs ws) = true := h
    rw [Bool.and_eq_true] at h
    exact ⟨relB_yes h.1, relsB_yes h.2⟩
noncomputable def rowsB (R : Nat → Nat → Bool) : List (List V) → List (List V) → Bool :=
  @List.rec (List V) (fun _ => List (List V) → Bool) (fun ws => @List.rec (List V) (fun _ => Bool) true (fun _ _ _ => false) ws) (fun v _ ih ws => @List.rec (List V) (fun _ => Bool) false (fun w ws _ => relsB R v w && ih ws) ws)
theorem rowsB_yes {R : Nat → Nat → Bool} : ∀ {vs ws : List (List V)}, rowsB R vs ws = true → rowsRel (fun a b => R a b = true) vs ws
  | [], [], _ => trivial
  | [], _ :: _, h => by cases h
  | _ :: _, [], h => by cases h
  | v :: vs, w :: ws, h => by
    have h : (relsB R v w && rowsB R vs ws) = true := h
    rw [Bool.and_eq_true] at h
    exact ⟨relsB_yes h.1, rowsB_yes h.2⟩
noncomputable def blkB (R : Nat → Nat → Bool) (x y : Blk) : Bool :=
  match x, y with
  | .rows k rs ro, .rows k' rs' ro' => Nat.beq k k' && eqB ro ro' && rowsB R rs rs'
  | .bytes bs ro, .bytes bs' ro' => eqB ro ro' && eqS bs bs'
  | .map es, .map es' => relsB R (es.map (·.1)) (es'.map (·.1)) && relsB R (es.map (·.2)) (es'.map (·.2))
  | _, _ => false
theorem blkB_yes {R : Nat → Nat → Bool} {x y : Blk} (h : blkB R x y = true) : x.rel (fun a b => R a b = true) y := by
  unfold blkB at h
  split at h
  · simp only [Bool.and_eq_true] at h; exact ⟨Nat.eq_of_beq_eq_true h.1.1, eqB_yes h.1.2, rowsB_yes h.2⟩
  · simp only [Bool.and_eq_true] at h; exact ⟨eqS_yes h.2, eqB_yes h.1⟩
  · simp only [Bool.and_eq_true] at h; exact ⟨relsB_yes h.1, relsB_yes h.2⟩
  · cases h
mutual
theorem V.rel_mono {R R' : Nat → Nat → Prop} (hR : ∀ a b, R a b → R' a b) : ∀ {v w : V}, V.rel R v w → V.rel R' v w
  | v, w, h => by
    cases v <;> cases w <;> first | exact h | (simp [V.rel] at h; done) | skip
    · rename_i a c
      cases a <;> cases c <;> first | exact h | (simp [V.rel] at h; done) | skip
      rename_i a c
      obtain ⟨h1, h2⟩ : R a.1 c.1 ∧ (a.2.1 = c.2.1 ∧ a.2.2 = c.2.2) := h
      exact ⟨hR _ _ h1, h2⟩
    · rename_i a _ _ _ c _ _ _
      cases a <;> cases c <;> first | exact h | (simp [V.rel] at h; done) | skip
      rename_i a c
      obtain ⟨h1, h2⟩ := h
      exact ⟨hR _ _ h1, h2⟩
    · rename_i a c
      cases a <;> cases c <;> first | exact h | (simp [V.rel] at h; done) | skip
      exact hR _ _ h
    · rename_i c vs c' ws
      obtain ⟨h1, h2⟩ := h
      refine ⟨?_, V.rels_mono hR h2⟩
      cases c <;> cases c' <;> first | exact h1 | exact hR _ _ h1
    · rename_i t v t' w
      obtain ⟨h1, h2⟩ := h
      exact ⟨h1, V.rel_mono hR h2⟩
    · rename_i vs ws
      exact V.rels_mono hR (vs := vs) (ws := ws) h
    · rename_i vs ws
      exact V.rels_mono hR (vs := vs) (ws := ws) h
theorem V.rels_mono {R R' : Nat → Nat → Prop} (hR : ∀ a b, R a b → R' a b) : ∀ {vs ws : List V}, V.rels R vs ws → V.rels R' vs ws
  | [], [], _ => trivial
  | [], _ :: _, h => by cases h
  | _ :: _, [], h => by cases h
  | v :: vs, w :: ws, h => ⟨V.rel_mono hR h.1, V.rels_mono hR h.2⟩
end
theorem rowsRel_mono {R R' : Nat → Nat → Prop} (hR : ∀ a b, R a b → R' a b) : ∀ {vs ws : List (List V)}, rowsRel R vs ws → rowsRel R' vs ws
  | [], [], _ => trivial
  | [], _ :: _, h => by cases h
  | _ :: _, [], h => by cases h
  | v :: vs, w :: ws, h => ⟨V.rels_mono hR h.1, rowsRel_mono hR h.2⟩
theorem Blk.rel_mono {R R' : Nat → Nat → Prop} (hR : ∀ a b, R a b → R' a b) {x y : Blk} (h : x.rel R y) : x.rel R' y := by
  cases x <;> cases y <;> first | exact h | (simp [Blk.rel] at h; done) | skip
  · exact ⟨h.1, h.2.1, rowsRel_mono hR h.2.2⟩
  · exact ⟨V.rels_mono hR h.1, V.rels_mono hR h.2⟩
/-- Of all that a trie holds. -/
noncomputable def allT (p : Nat → Blk → Bool) (t : Tr Blk) : Nat → Nat → Bool :=
  @Tr.rec Blk (fun _ => Nat → Nat → Bool) (fun _ _ => true) (fun _ v _ ihl ihr a b => @Option.rec Blk (fun _ => Bool) true (fun x => p b x) v && ihl (Nat.mul 2 a) (Nat.add a b) && ihr (Nat.mul 2 a) (Nat.add (Nat.mul 2 a) b)) t
theorem allT_get {p : Nat → Blk → Bool} : ∀ (t : Tr Blk) (a b : Nat), allT p t a b = true → ∀ i x, t.get i = some x → p (a * i + b) x = true
  | .e, a, b, h, i, x, hx => by cases hx
  | .n l v r, a, b, h, i, x, hx => by
    have h : (@Option.rec Blk (fun _ => Bool) true (fun x => p b x) v && allT p l (2 * a) (a + b) && allT p r (2 * a) (2 * a + b)) = true := h
    simp only [Bool.and_eq_true] at h
    obtain ⟨⟨h1, h2⟩, h3⟩ := h
    unfold Tr.get at hx
    split at hx
    · rename_i h0
      subst h0; subst hx
      simpa using h1
    · split at hx
      · have := allT_get l _ _ h2 _ _ hx
        rw [show 2 * a * (i / 2) + (a + b) = a * i + b from ?_] at this
        · exact this
        · have : i = 2 * (i / 2) + 1 := by omega
          calc 2 * a * (i / 2) + (a + b) = a * (2 * (i / 2) + 1) + b := by rw [Nat.mul_add, Nat.mul_one, Nat.mul_comm 2 a, Nat.mul_assoc]; omega
            _ = a * i + b := by rw [← this]
      · have := allT_get r _ _ h3 _ _ hx
        rw [show 2 * a * (i / 2 - 1) + (2 * a + b) = a * i + b from ?_] at this
        · exact this
        · have : i = 2 * (i / 2 - 1) + 2 := by omega
          calc 2 * a * (i / 2 - 1) + (2 * a + b) = a * (2 * (i / 2 - 1) + 2) + b := by rw [Nat.mul_add, Nat.mul_comm 2 a, Nat.mul_assoc]; omega
            _ = a * i + b := by rw [← this]
noncomputable def nthN : List Nat → Nat → Nat := @List.rec Nat (fun _ => Nat → Nat) (fun _ => 0) (fun x _ ih i => @Nat.rec (fun _ => Nat) x (fun j _ => ih j) i)
theorem nthN_eq : ∀ (L : List Nat) (i : Nat), nthN L i = L.getD i 0
  | [], i => by simp [nthN]
  | x :: L, 0 => rfl
  | x :: L, i + 1 => by show nthN L i = _; rw [nthN_eq L i]; simp
/-- The numbers rise, above a first one. -/
noncomputable def upB : List Nat → Nat → Bool := @List.rec Nat (fun _ => Nat → Bool) (fun _ => true) (fun x _ ih lo => Nat.ble lo x && ih (Nat.add x 1))
theorem upB_lo : ∀ {L : List Nat} {lo : Nat}, upB L lo = true → ∀ i, i < L.length → lo ≤ L.getD i 0
  | [], lo, h, i, hi => by simp at hi
  | x :: L, lo, h, i, hi => by
    have h : (Nat.ble lo x && upB L (x + 1)) = true := h
    rw [Bool.and_eq_true] at h
    have h1 := Nat.le_of_ble_eq_true h.1
    cases i with
    | zero => simpa using h1
    | succ i =>
      have := upB_lo h.2 i (by simpa using hi)
      simp only [List.getD_cons_succ]; omega
theorem upB_inj : ∀ {L : List Nat} {lo : Nat}, upB L lo = true → ∀ i j, i < L.length → j < L.length → L.getD i 0 = L.getD j 0 → i = j
  | [], lo, h, i, j, hi, _, _ => by simp at hi
  | x :: L, lo, h, i, j, hi, hj, he => by
    have h : (Nat.ble lo x && upB L (x + 1)) = true := h
    rw [Bool.and_eq_true] at h
    cases i with
    | zero => cases j with
      | zero => rfl
      | succ j =>
        have := upB_lo h.2 j (by simpa using hj)
        simp only [List.getD_cons_zero, List.getD_cons_succ] at he; omega
    | succ i => cases j with
      | zero =>
        have := upB_lo h.2 i (by simpa using hi)
        simp only [List.getD_cons_zero, List.getD_cons_succ] at he; omega
      | succ j =>
        simp only [List.getD_cons_succ] at he
        rw [upB_inj h.2 i j (by simpa using hi) (by simpa using hj) he]
noncomputable def isSomeK (x : Option Blk) : Bool := @Option.rec Blk (fun _ => Bool) false (fun _ => true) x
/-- How blocks are named, checked: elder ones below 'n', new ones by the list. -/
noncomputable def gcRB (h h' : H) (L : List Nat) (b b1 : Nat) : Bool :=
  @Bool.rec (fun _ => Bool) (Nat.ble (Nat.add b 1) h'.nx && Nat.beq (nthN L (Nat.sub b h.nx)) b1) (Nat.beq b1 b && isSomeK (getK h.tr b)) (Nat.ble (Nat.add b 1) h.nx)
noncomputable def gcB (h h1 h' : H) (L : List Nat) : Bool :=
  Nat.beq h'.nx (Nat.add h.nx L.length) && upB L h.nx &&
  allT (fun b x => @Bool.rec (fun _ => Bool)
    (Nat.ble (Nat.add b 1) h'.nx && @Option.rec Blk (fun _ => Bool) false (fun x1 => blkB (gcRB h h' L) x x1) (getK h1.tr (nthN L (Nat.sub b h.nx))))
    (isSomeK (getK h.tr b) && @Option.rec Blk (fun _ => Bool) false (fun x1 => blkB (gcRB h h' L) x x1) (getK h1.tr b)) (Nat.ble (Nat.add b 1) h.nx)) h'.tr 1 0
theorem isSomeK_eq (x : Option Blk) : isSomeK x = x.isSome := by cases x <;> rfl
theorem gcRB_yes {h h' : H} {L : List Nat} {b b1 : Nat} (q : gcRB h h' L b b1 = true) : GcR h h' (fun b => nthN L (b - h.nx)) b b1 := by
  unfold gcRB at q
  cases hb : Nat.ble (Nat.add b 1) h.nx with
  | true =>
    rw [hb] at q
    have q : (Nat.beq b1 b && isSomeK (getK h.tr b)) = true := q
    rw [Bool.and_eq_true, isSomeK_eq, getK_eq] at q
    have := Nat.le_of_ble_eq_true hb
    exact .inl ⟨this, Nat.eq_of_beq_eq_true q.1, q.2⟩
  | false =>
    rw [hb] at q
    have q : (Nat.ble (Nat.add b 1) h'.nx && Nat.beq (nthN L (Nat.sub b h.nx)) b1) = true := q
    rw [Bool.and_eq_true] at q
    have h1 : ¬ b + 1 ≤ h.nx := fun h => by rw [Nat.ble_eq_true_of_le h] at hb; cases hb
    have h2 := Nat.le_of_ble_eq_true q.1
    exact .inr ⟨by omega, h2, (Nat.eq_of_beq_eq_true q.2).symm⟩
theorem gcB_yes {h h1 h' : H} {L : List Nat} (q : gcB h h1 h' L = true) : Gc h h1 h' (fun b => nthN L (b - h.nx)) := by
  unfold gcB at q
  simp only [Bool.and_eq_true] at q
  obtain ⟨⟨q1, q2⟩, q3⟩ := q
  have q1 : h'.nx = h.nx + L.length := Nat.eq_of_beq_eq_true q1
  have at1 : ∀ b x, h'.get b = some x → (b < h.nx ∧ (h.get b).isSome = true ∧ ∃ x1, h1.get b = some x1 ∧ x.rel (GcR h h' (fun b => nthN L (b - h.nx))) x1) ∨ (h.nx ≤ b ∧ b < h'.nx ∧ ∃ x1, h1.get (nthN L (b - h.nx)) = some x1 ∧ x.rel (GcR h h' (fun b => nthN L (b - h.nx))) x1) := by
    intro b x hx
    have := allT_get _ _ _ q3 b x hx
    rw [Nat.one_mul, Nat.add_zero] at this
    cases hb : Nat.ble (Nat.add b 1) h.nx with
    | true =>
      rw [hb] at this
      have this : (isSomeK (getK h.tr b) && @Option.rec Blk (fun _ => Bool) false (fun x1 => blkB (gcRB h h' L) x x1) (getK h1.tr b)) = true := this
      rw [Bool.and_eq_true, isSomeK_eq, getK_eq, getK_eq] at this
      obtain ⟨a1, a2⟩ := this
      have hb := Nat.le_of_ble_eq_true hb
      cases hg : h1.tr.get b with
      | none => rw [hg] at a2; cases a2
      | some x1 => rw [hg] at a2; exact .inl ⟨hb, a1, x1, hg, Blk.rel_mono (fun _ _ => gcRB_yes) (blkB_yes a2)⟩
    | false =>
      rw [hb] at this
      have this : (Nat.ble (Nat.add b 1) h'.nx && @Option.rec Blk (fun _ => Bool) false (fun x1 => blkB (gcRB h h' L) x x1) (getK h1.tr (nthN L (Nat.sub b h.nx)))) = true := this
      rw [Bool.and_eq_true, getK_eq] at this
      obtain ⟨a1, a2⟩ := this
      have h1' : ¬ b + 1 ≤ h.nx := fun h => by rw [Nat.ble_eq_true_of_le h] at hb; cases hb
      have h2 := Nat.le_of_ble_eq_true a1
      cases hg : h1.tr.get (nthN L (Nat.sub b h.nx)) with
      | none => rw [hg] at a2; cases a2
      | some x1 => rw [hg] at a2; exact .inr ⟨by omega, h2, x1, hg, Blk.rel_mono (fun _ _ => gcRB_yes) (blkB_yes a2)⟩
  refine ⟨by omega, ?_, ?_, ?_⟩
  · intro b x hb hx
    rcases at1 b x hx with ⟨_, a, b⟩ | ⟨a, _⟩
    · exact ⟨a, .inr b⟩
    · omega
  · intro b x hb hx
    rcases at1 b x hx with ⟨a, _⟩ | ⟨_, b⟩
    · omega
    · exact b
  · intro b c x y hx hy he
    have lo : ∀ b, h.nx ≤ b → b < h'.nx → h.nx ≤ nthN L (b - h.nx) := fun b h1 h2 => by rw [nthN_eq]; exact upB_lo q2 _ (by omega)
    rcases at1 b x hx with ⟨a, _⟩ | ⟨a, a', _⟩ <;> rcases at1 c y hy with ⟨d, _⟩ | ⟨d, d', _⟩
    · rw [gcN, gcN, if_pos a, if_pos d] at he; exact he
    · rw [gcN, gcN, if_pos a, if_neg (by omega)] at he
      have := lo c d d'; omega
    · rw [gcN, gcN, if_neg (by omega), if_pos d] at he
      have := lo b a a'; omega
    · rw [gcN, gcN, if_neg (by omega), if_neg (by omega), nthN_eq, nthN_eq] at he
      have := upB_inj q2 _ _ (by omega) (by omega) he; omega
/-- A call's answer and its heap, told as others. -/
noncomputable def swept (h h' : H) (L : List Nat) (v v1 : V) (h1 : H) : Bool := gcB h h1 h' L && (match v, v1 with | .tup vs, .tup ws => relsB (gcRB h h' L) vs ws | v, w => relB (gcRB h h' L) v w)
theorem swept_abs {h h1 h' : H} {L : List Nat} {v v1 : V} (q : swept h h' L v v1 h1 = true) : Abs h v1 h1 v h' := by
  unfold swept at q
  rw [Bool.and_eq_true] at q
  refine Abs.gc (fun _ => gcB_yes q.1) ?_
  have q2 := q.2
  split at q2
  · exact V.rels_mono (fun _ _ => gcRB_yes) (relsB_yes q2)
  · exact V.rel_mono (fun _ _ => gcRB_yes) (relB_yes q2)
end Am
