/- AmApp: append: in place, or into a new array, or whichever of the two the tape says. -/
import Derived.Test.YtibmhhdgcbaofaaDoorAmOps1
namespace Am
set_option linter.unusedVariables false
set_option linter.unusedSimpArgs false
open Go (IntKind BinOp UnOp Value Program TypeId TypeDesc Operand Oper Code Tmp World Addr Obj Act)

variable {P : Program} {C : Cx} {B : Nat} {e e' : Emb} {h h' : H} {w w' : World}

/-- A block that gives way to another one at the same place. -/
theorem Stp.replace (s : Sim C B e h w) {b : Nat} {x x' : Blk} {l l' : Loc} (hb : h.get b = some x) (hown : x.own = true) (hl : e b = some l) (hcb : l'.cb = l.cb)
    (hk : ∀ c, c ≠ l.cb → w'.heap[c]? = w.heap[c]?) (hg : w'.heap.size = w.heap.size) (hx : BlkR C (e.add h.nx l') x' l' w') (hs : Sky w w' := by exact ⟨rfl, rfl, rfl⟩) :
    Stp C B e h w (e.add h.nx l') ((h.kill b).push x') w' := by
  have hle : e.le (e.add h.nx l') := Emb.le_add l' s.fresh
  have gp : ∀ c y, ((h.kill b).push x').get c = some y → (c = h.nx ∧ y = x') ∨ (c ≠ h.nx ∧ c ≠ b ∧ h.get c = some y) := by
    intro c y hc
    rw [H.get_push] at hc
    by_cases hcn : c = h.nx
    · rw [if_pos (by exact hcn)] at hc; exact .inl ⟨hcn, (Option.some.inj hc).symm⟩
    · rw [if_neg (by exact hcn), H.get_kill] at hc
      by_cases hcb : c = b
      · rw [if_pos hcb] at hc; cases hc
      · rw [if_neg hcb] at hc; exact .inr ⟨hcn, hcb, hc⟩
  have old : ∀ c y m, h.get c = some y → e.add h.nx l' c = some m → e c = some m := by
    intro c y m hc hm
    have hne : c ≠ h.nx := Nat.ne_of_lt (s.lt hc)
    simpa [Emb.add, hne] using hm
  obtain ⟨l0, hl0, _, hlt0, ho0⟩ := s.blk b x hb
  rw [hl] at hl0; cases hl0
  have far : ∀ c y m, c ≠ b → h.get c = some y → e c = some m → m.cb ≠ l.cb := fun c y m hcb hc hm => (s.inj b c x y l m hb hc hown (Ne.symm hcb) hl hm).symm
  refine ⟨hle, ⟨fun c y hc => ?_, ?_, ?_, by rw [hg]; exact s.low, fun b l hb => hle _ _ (s.gl b l hb)⟩, fun c ho => ?_, fun c ho => ?_, fun c hc ho => ?_, Nat.le_of_eq hg.symm, Nat.le_succ _, hs⟩
  · rcases gp c y hc with ⟨rfl, rfl⟩ | ⟨_, hcb, hc'⟩
    · exact ⟨l', Emb.add_same _ _ _, hx, by omega, fun _ => by rw [‹l'.cb = l.cb›]; exact ho0 hown⟩
    · obtain ⟨m, hm, hr, hlt, ho⟩ := s.blk c y hc'
      exact ⟨m, hle _ _ hm, (hr.of_heap (hk _ (far c y m hcb hc' hm))).mono hle, by omega, ho⟩
  · intro c c' y y' m m' hc hc' ho hne hm hm'
    rcases gp c y hc with ⟨rfl, rfl⟩ | ⟨_, hb1, hc1⟩ <;> rcases gp c' y' hc' with ⟨rfl, rfl⟩ | ⟨_, hb2, hc2⟩
    · exact absurd rfl hne
    · rw [Emb.add_same] at hm; cases hm
      rw [hcb]
      exact (far c' y' m' hb2 hc2 (old _ _ _ hc2 hm')).symm
    · rw [Emb.add_same] at hm'; cases hm'
      rw [hcb]
      exact far c y m hb1 hc1 (old _ _ _ hc1 hm)
    · exact s.inj _ _ _ _ _ _ hc1 hc2 ho hne (old _ _ _ hc1 hm) (old _ _ _ hc2 hm')
  · intro c m hm
    unfold Emb.add at hm
    show c < h.nx + 1
    by_cases hcn : c = h.nx
    · omega
    · rw [if_neg hcn] at hm; have := s.dom c m hm; omega
  · obtain ⟨c', y, m, hc', hy, hm, rfl⟩ := ho
    rcases gp c' y hc' with ⟨rfl, rfl⟩ | ⟨_, hb1, hc1⟩
    · rw [Emb.add_same] at hm; cases hm; exact .inr ⟨b, x, l, hb, hown, hl, hcb.symm⟩
    · exact .inr ⟨c', y, m, hc1, hy, old _ _ _ hc1 hm, rfl⟩
  · obtain ⟨c', y, m, hc', hm, rfl⟩ := ho
    rcases gp c' y hc' with ⟨rfl, rfl⟩ | ⟨_, hb1, hc1⟩
    · rw [Emb.add_same] at hm; cases hm; exact .inr ⟨b, x, l, hb, hl, hcb.symm⟩
    · exact .inr ⟨c', y, m, hc1, old _ _ _ hc1 hm, rfl⟩
  · exact hk c fun hcl => ho ⟨b, x, l, hb, hown, hl, hcl.symm⟩

theorem Stp.killed (s : Sim C B e h w) (b : Nat) (t : Stp C B e (h.kill b) w e' h' w') : Stp C B e h w e' h' w' := (Stp.kill s b).trans t

theorem next_le (need c : Nat) (hc : c < need) : Go.Builtin.nextslicecap need c ≤ 2 * need + 768 := by
  have grow : ∀ (n c : Nat), c ≤ 2 * need + 768 → Go.Builtin.growBy need n c ≤ 2 * need + 768 := by
    intro n
    induction n with
    | zero => intro c hc; exact hc
    | succ n ih =>
      intro c hc
      unfold Go.Builtin.growBy
      split
      · exact hc
      · exact ih _ (by omega)
  unfold Go.Builtin.nextslicecap
  split
  · omega
  · split
    · omega
    · exact grow 4 c (by omega)

theorem room_next {need bytes c : Nat} (hr : roomOk need bytes = true) (hc : c < need) : ¬ (Go.Builtin.nextslicecap need c * bytes > 2 ^ 48) ∧ ¬ ((need : Int) > IntKind.i64.max) ∧ bytes ≠ 0 := by
  unfold roomOk at hr
  simp only [Bool.and_eq_true, decide_eq_true_eq] at hr
  obtain ⟨⟨h0, h1⟩, h2⟩ := hr
  refine ⟨?_, ?_, by omega⟩
  · have h3 : Go.Builtin.nextslicecap need c * bytes ≤ (2 * need + 768) * bytes := Nat.mul_le_mul_right _ (next_le need c hc)
    have h4 : (2 * need + 768) * bytes = 2 * (need * bytes) + 768 * bytes := by rw [Nat.add_mul, Nat.mul_assoc]
    omega
  · have h3 : need * 1 ≤ need * bytes := Nat.mul_le_mul_left _ h0
    have : IntKind.i64.max = 9223372036854775807 := by decide
    rw [this]; omega

theorem zeroCells_size (z : Array Value) (n : Nat) : (Go.Builtin.zeroCells z n).size = n * z.size := by simp [Go.Builtin.zeroCells]

/-- What the model does behind the count: 'n' elements are appended, 'us' are their cells. -/
def appCore (el : TypeId) (size : Nat) (base : Option Addr) (sLen sCap n : Nat) (zeros : Bool) (x : Value) (appended : Go.Sem (Array Value)) : Go.Sem Value := do
  let need := sLen + n
  if need ≤ sCap then
    let new ← appended
    if let some a := base then Go.storeCells (a.add (sLen * size)) new.toList
    pure (.slice base need sCap)
  else
    if (need : Int) > IntKind.i64.max ∧ (zeros ∨ (← Go.typeInfo el).bytes = 0) then Go.runtimePanic (.error "growslice: len out of range")
    if Go.Builtin.nextslicecap need sCap * (← Go.typeInfo el).bytes > 2 ^ 48 then (if zeros then Go.runtimePanic (.error "growslice: len out of range") else do
      if !(← Go.Builtin.mayShare size sLen n base x) then Go.mark .noRoom
      Go.unsupported (.resourceLimit "append: a slice or a string whose bytes no memory bears"))
    let newCap ← Go.choose (.appendCap need sCap el)
    Go.askRoom (newCap * (← Go.typeInfo el).bytes)
    let old ← Go.Builtin.firstCells size sLen (.slice base sLen sCap)
    let new ← appended
    let rest := Go.Builtin.zeroCells (← Go.zeroValue el).cells (newCap - need)
    pure (.slice (some (← Go.newRow el (old ++ new ++ rest))) need newCap)

theorem core_place {el : TypeId} {size sLen sCap n : Nat} {base : Option Addr} {zeros : Bool} {x : Value} {appended : Go.Sem (Array Value)} {us : List Value} (happ : appended.run P w = .ok us.toArray w) (hle : sLen + n ≤ sCap)
    (hst : (match base with | some a => (Go.storeCells (a.add (sLen * size)) us).run P w | none => .ok () w) = .ok () w') :
    (appCore el size base sLen sCap n zeros x appended).run P w = .ok (.slice base (sLen + n) sCap) w' := by
  unfold appCore
  simp only [hle, if_true, Go.Sem.run_bind, happ, Go.Result.andThen_ok]
  cases base with
  | none => simp at hst; subst hst; simp
  | some a => simp only [] at hst; simp [hst]

theorem core_grow {el : TypeId} {size bytes sLen sCap n : Nat} {base : Option Addr} {zeros : Bool} {x : Value} {appended : Go.Sem (Array Value)} {us old : List Value} {zv : Value}
    (happ : ∀ w, w.heap = w'.heap → appended.run P w = .ok us.toArray w) (hgt : ¬ sLen + n ≤ sCap) (hb : bytesOfT P el = some bytes) (hr : roomOk (sLen + n) bytes = true) (hw : w.heap = w'.heap)
    (hold : ∀ w, w.heap = w'.heap → (Go.Builtin.firstCells size sLen (.slice base sLen sCap)).run P w = .ok old.toArray w) (hz : ∀ w, (Go.zeroValue el).run P w = .ok zv w) :
    ∃ cap w1, sLen + n ≤ cap ∧ w1 = { w with heap := w.heap.push (.cells (old.toArray ++ us.toArray ++ Go.Builtin.zeroCells zv.cells (cap - (sLen + n))) el (0, 0)), drawn := w1.drawn } ∧
      (appCore el size base sLen sCap n zeros x appended).run P w = .ok (.slice (some ⟨w.heap.size, 0, none⟩) (sLen + n) cap) w1 := by
  obtain ⟨i, hi, rfl⟩ : ∃ i, P.info? el = some i ∧ i.bytes = bytes := Option.map_eq_some_iff.1 hb
  obtain ⟨h1, h2, h3⟩ := room_next hr (c := sCap) (by omega)
  have hf : (Go.Question.appendCap (sLen + n) sCap el).forced = false := rfl
  let w0 : World := { w with drawn := w.drawn + 1 }
  let cap := (Go.Question.appendCap (sLen + n) sCap el).cut (w.tape w.drawn (Go.Question.appendCap (sLen + n) sCap el))
  refine ⟨cap, { w0 with heap := w0.heap.push (.cells (old.toArray ++ us.toArray ++ Go.Builtin.zeroCells zv.cells (cap - (sLen + n))) el (0, 0)) }, ?_, rfl, ?_⟩
  · show sLen + n ≤ (sLen + n) + _
    omega
  · have e1 : ({ w with drawn := w.drawn + 1 } : World).heap = w'.heap := hw
    unfold appCore
    simp only [hgt, if_false, Go.Sem.run_bind, run_info hi, Go.Result.andThen_ok, h2, h1, false_and, Go.Sem.run_pure, Go.run_choose, hf, Bool.false_eq_true, Go.run_askRoom, hold _ e1, happ _ e1, hz, Go.newRow, Go.run_newObj]
    rfl

end Am
