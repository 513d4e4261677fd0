/- The abstract machine, part 3: texts of the folder wip/am, one behind the other. -/
import Derived.Test.YtkhnielggkcbiaaGreatDoorAmAll2
import Derived.Attr
/- AmAbs2: more on a call's answer said simply: elder blocks that are written. -/
namespace Am
set_option linter.unusedVariables false
set_option linter.unusedSimpArgs false
open Go (IntKind BinOp UnOp Value Program TypeId TypeDesc Operand Oper Code Tmp World Addr Obj Act Fence)

/-- All but one of the elder blocks are as they were. -/
def KeptBut (b : Nat) (h h1 : H) : Prop := h.nx ≤ h1.nx ∧ ∀ i, i < h.nx → i ≠ b → h1.get i = h.get i
theorem KeptBut.refl {b : Nat} {h : H} : KeptBut b h h := ⟨Nat.le_refl _, fun _ _ _ => rfl⟩
theorem KeptBut.push {b : Nat} {h h1 : H} (k : KeptBut b h h1) {x : Blk} : KeptBut b h (h1.push x) := ⟨Nat.le_succ_of_le k.1, fun i hi hb => by rw [H.get_push, if_neg (by have := k.1; omega)]; exact k.2 i hi hb⟩
theorem KeptBut.set {b : Nat} {h h1 : H} (k : KeptBut b h h1) {j : Nat} {x : Blk} (hj : h.nx ≤ j) : KeptBut b h (h1.set j x) := ⟨k.1, fun i hi hb => by rw [H.get_set, if_neg (by omega)]; exact k.2 i hi hb⟩
theorem KeptBut.setb {b : Nat} {h h1 : H} (k : KeptBut b h h1) {x : Blk} : KeptBut b h (h1.set b x) := ⟨k.1, fun i hi hb => by rw [H.get_set, if_neg hb]; exact k.2 i hi hb⟩
theorem KeptBut.kill {b : Nat} {h h1 : H} (k : KeptBut b h h1) {j : Nat} (hj : h.nx ≤ j) : KeptBut b h (h1.kill j) := ⟨k.1, fun i hi hb => by rw [H.get_kill, if_neg (by omega)]; exact k.2 i hi hb⟩
end Am

/- AmStep: rules that step through code. -/
namespace Am
set_option linter.unusedVariables false
set_option linter.unusedSimpArgs false
open Go (IntKind BinOp UnOp)

variable {pr : Prog} {nt : Nat} {ar : Option Nat} {t : Tm} {h : H}

/-- What was got, handed on. -/
def wpGot (o : Option (V × H)) (K : V → H → Prop) : Prop := ∃ r, o = some r ∧ K r.1 r.2
@[congr] theorem wpGot_congr {o o' : Option (V × H)} {K : V → H → Prop} (h : o = o') : wpGot o K = wpGot o' K := by rw [h]
theorem wpGot_some {v : V} {h : H} {K : V → H → Prop} : wpGot (some (v, h)) K = K v h := by
  unfold wpGot; exact propext ⟨fun ⟨r, a, b⟩ => by cases a; exact b, fun b => ⟨_, rfl, b⟩⟩
theorem wpOps_u {d : Option Nat} {a : AAct} {l : Nat} {os : List AOper} {Q : Tm → H → Prop} : wpOps pr (⟨d, a, none, l⟩ :: os) t h Q = wpAct pr a t h (fun v h' => wpOps pr os (t.pd d v) h' Q) := by
  rw [wpOps]; exact if_pos rfl
theorem wpOps_t {d : Option Nat} {a : AAct} {g : Nat} {w : Bool} {l : Nat} {os : List AOper} {Q : Tm → H → Prop} (hw : t.v g = .b w) : wpOps pr (⟨d, a, some (g, w), l⟩ :: os) t h Q = wpAct pr a t h (fun v h' => wpOps pr os (t.pd d v) h' Q) := by
  rw [wpOps]; exact if_pos (by simp [AOper.wanted, hw])
theorem wpOps_f {d : Option Nat} {a : AAct} {g : Nat} {w : Bool} {l : Nat} {os : List AOper} {Q : Tm → H → Prop} (hw : t.v g = .b (!w)) : wpOps pr (⟨d, a, some (g, w), l⟩ :: os) t h Q = wpOps pr os (t.pd d .un) h Q := by
  rw [wpOps]; exact if_neg (by simp [AOper.wanted, hw])
theorem wpOps_n {d : Option Nat} {a : AAct} {g : Nat} {w : Bool} {l : Nat} {os : List AOper} {Q : Tm → H → Prop} (hw : t.v g = .tup []) : wpOps pr (⟨d, a, some (g, w), l⟩ :: os) t h Q = wpOps pr os (t.pd d .un) h Q := by
  rw [wpOps]; exact if_neg (by simp [AOper.wanted, hw])
@[congr] theorem wpCall_congr {f f' : V} {as as' : List V} {K : V → H → Prop} (hf : f = f') (ha : as = as') : wpCall pr f as h K = wpCall pr f' as' h K := by rw [hf, ha]
@[congr] theorem wpInv_congr {tbl : List (Nat × Nat)} {x x' : V} {as as' : List V} {K : V → H → Prop} (hf : x = x') (ha : as = as') : wpInv pr tbl x as h K = wpInv pr tbl x' as' h K := by rw [hf, ha]
theorem wpCall_ext {f : Nat} {g : List V → H → Option (V × H)} (he : pr.ext f = some g) {as caps : List V} {h : H} {K : V → H → Prop} (hy : isYl (as ++ caps) = false) : wpCall pr (.f (.fn f) caps) as h K = wpGot (g (as ++ caps) h) K := by
  show Runs pr (.fn f) (as ++ caps) h K = _
  refine propext ⟨?_, ?_⟩
  · rintro ⟨n, v, h', a, b⟩
    cases n with
    | zero => cases a
    | succ n =>
      simp only [runN, evCal, he, hy] at a
      exact ⟨_, a, b⟩
  · rintro ⟨r, a, b⟩
    exact runs_ext he hy a b

theorem v_pd {d : Nat} {v : V} {n : Nat} : (t.pd (some d) v).v n = if n = d then v else t.v n := Tm.v_st _ _ _ _
theorem v_pd0 {v : V} {n : Nat} : (t.pd none v).v n = t.v n := rfl
theorem v_args_nil {i n : Nat} : (Tm.args [] i).v n = .un := by simp [Tm.args, Tm.v, Tr.get_e]
theorem v_args_cons {v : V} {vs : List V} {i n : Nat} : (Tm.args (v :: vs) i).v n = if n = i then v else (Tm.args vs (i + 1)).v n := Tm.v_st _ _ _ _
theorem ev_t {n : Nat} : t.ev (.t n) = t.v n := rfl
theorem ev_c {v : V} : t.ev (.c v) = v := rfl
theorem ev_fn {f : Nat} : t.ev (.fn f) = .f (.fn f) [] := rfl

theorem wpA_region' {ops : List AOper} {Q : Ex → Tm → H → Prop} : wpA pr nt ar (.region ops) t h Q = wpOps pr ops t h (Q .normal) := propext wpA_region

/-! ### Regions that draw their order -/
theorem wpA_regionD' {ops : List AOper} {Q : Ex → Tm → H → Prop} : wpA pr nt ar (.regionD ops) t h Q = wpOpsD pr ops t h [h] (Q .normal) := propext wpA_regionD
def andD (b : Bool) (X : Prop) : Prop := b = true ∧ X
@[congr] theorem andD_congr {b b' : Bool} {X : Prop} (h : b = b') : andD b X = andD b' X := by rw [h]
theorem andD_true {X : Prop} : andD true X = X := by simp [andD]
theorem wpOpsD_u {d : Option Nat} {a : AAct} {l : Nat} {os : List AOper} {hs : List H} {Q : Tm → H → Prop} : wpOpsD pr (⟨d, a, none, l⟩ :: os) t h hs Q = wpAct pr a t h (fun v h' => andD (looked ⟨d, a, none, l⟩ t.ev v hs && Nat.ble h.nx h'.nx) (wpOpsD pr os (t.pd d v) h' (behind a h' hs) Q)) := by
  rw [wpOpsD]; exact if_pos rfl
theorem wpOpsD_t {d : Option Nat} {a : AAct} {g : Nat} {w : Bool} {l : Nat} {os : List AOper} {hs : List H} {Q : Tm → H → Prop} (hw : t.v g = .b w) : wpOpsD pr (⟨d, a, some (g, w), l⟩ :: os) t h hs Q = wpAct pr a t h (fun v h' => andD (looked ⟨d, a, none, l⟩ t.ev v hs && Nat.ble h.nx h'.nx) (wpOpsD pr os (t.pd d v) h' (behind a h' hs) Q)) := by
  rw [wpOpsD]; exact if_pos (by simp [AOper.wanted, hw])
theorem wpOpsD_f {d : Option Nat} {a : AAct} {g : Nat} {w : Bool} {l : Nat} {os : List AOper} {hs : List H} {Q : Tm → H → Prop} (hw : t.v g = .b (!w)) : wpOpsD pr (⟨d, a, some (g, w), l⟩ :: os) t h hs Q = wpOpsD pr os (t.pd d .un) h (behind a h hs) Q := by
  rw [wpOpsD]; exact if_neg (by simp [AOper.wanted, hw])
theorem wpOpsD_n {d : Option Nat} {a : AAct} {g : Nat} {w : Bool} {l : Nat} {os : List AOper} {hs : List H} {Q : Tm → H → Prop} (hw : t.v g = .tup []) : wpOpsD pr (⟨d, a, some (g, w), l⟩ :: os) t h hs Q = wpOpsD pr os (t.pd d .un) h (behind a h hs) Q := by
  rw [wpOpsD]; exact if_neg (by simp [AOper.wanted, hw])
theorem ble_same {n : Nat} : Nat.ble n n = true := by simp
theorem ble_add {n k : Nat} : Nat.ble n (n + k) = true := by simp

/-! ### Heaps -/
theorem nx_push {x : Blk} : (h.push x).nx = h.nx + 1 := rfl
theorem nx_set {b : Nat} {x : Blk} : (h.set b x).nx = h.nx := rfl
theorem nx_kill {b : Nat} : (h.kill b).nx = h.nx := rfl

/-! ### Rows -/
def rdOf (x : Option Blk) (r f n : Nat) : Option (List V) :=
  match x with
  | some (.rows _ rs _) => (rs[r]?).bind fun row => if f + n ≤ row.length then some ((row.drop f).take n) else none
  | some (.bytes bs _) => (bs[r]?).bind fun c => if f + n ≤ 1 then some (([.i .u8 c.toNat].drop f).take n) else none
  | _ => none
theorem rd_of {b r f n : Nat} : h.rd b r f n = rdOf (h.get b) r f n := by
  unfold H.rd H.row rdOf
  cases h.get b with
  | none => rfl
  | some x =>
    cases x with
    | rows k rs ro => rfl
    | bytes bs ro => simp only [Option.bind_map, Function.comp_def, List.length_cons, List.length_nil]
    | _ => rfl

/-- The rules that go ahead of what they hold: 'simp only [↓STEP, ..]'. -/
theorem STEP :
    (∀ (pr : Prog) (nt : Nat) (ar : Option Nat) (t : Tm) (h : H) (a b : ACode) (Q : Ex → Tm → H → Prop), wpA pr nt ar (.seq a b) t h Q = wpA pr nt ar a t h (thenQ (fun t h => wpA pr nt ar b t h Q) Q)) ∧
    (∀ (pr : Prog) (nt : Nat) (ar : Option Nat) (t : Tm) (h : H) (Q : Ex → Tm → H → Prop), wpA pr nt ar .skip t h Q = Q .normal t h) ∧
    (∀ (pr : Prog) (nt : Nat) (ar : Option Nat) (t : Tm) (h : H) (Q : Ex → Tm → H → Prop), wpA pr nt ar .ret t h Q = Q .ret t h) ∧
    (∀ (pr : Prog) (nt : Nat) (ar : Option Nat) (t : Tm) (h : H) (id : Nat) (Q : Ex → Tm → H → Prop), wpA pr nt ar (.exit id) t h Q = Q (.exit id) t h) ∧
    (∀ (pr : Prog) (nt : Nat) (ar : Option Nat) (t : Tm) (h : H) (id : Nat) (c : ACode) (Q : Ex → Tm → H → Prop), wpA pr nt ar (.block id c) t h Q = wpA pr nt ar c t h (blockQ id Q)) ∧
    (∀ (pr : Prog) (nt : Nat) (ar : Option Nat) (t : Tm) (h : H) (c : AOpd) (x y : ACode) (Q : Ex → Tm → H → Prop), t.ev c = .b true → wpA pr nt ar (.cond c x y) t h Q = wpA pr nt ar x t h Q) ∧
    (∀ (pr : Prog) (nt : Nat) (ar : Option Nat) (t : Tm) (h : H) (c : AOpd) (x y : ACode) (Q : Ex → Tm → H → Prop), t.ev c = .b false → wpA pr nt ar (.cond c x y) t h Q = wpA pr nt ar y t h Q) ∧
    (∀ (pr : Prog) (nt : Nat) (ar : Option Nat) (t : Tm) (h : H) (ops : List AOper) (Q : Ex → Tm → H → Prop), wpA pr nt ar (.region ops) t h Q = wpOps pr ops t h (Q .normal)) ∧
    (∀ (pr : Prog) (nt : Nat) (ar : Option Nat) (t : Tm) (h : H) (ops : List AOper) (Q : Ex → Tm → H → Prop), wpA pr nt ar (.regionD ops) t h Q = wpOpsD pr ops t h [h] (Q .normal)) ∧
    (∀ (pr : Prog) (t : Tm) (h : H) (Q : Tm → H → Prop), wpOps pr [] t h Q = Q t h) ∧
    (∀ (pr : Prog) (t : Tm) (h : H) (d : Option Nat) (a : AAct) (l : Nat) (os : List AOper) (Q : Tm → H → Prop), wpOps pr (⟨d, a, none, l⟩ :: os) t h Q = wpAct pr a t h (fun v h' => wpOps pr os (t.pd d v) h' Q)) ∧
    (∀ (pr : Prog) (t : Tm) (h : H) (d : Option Nat) (a : AAct) (g : Nat) (w : Bool) (l : Nat) (os : List AOper) (Q : Tm → H → Prop), t.v g = .b w → wpOps pr (⟨d, a, some (g, w), l⟩ :: os) t h Q = wpAct pr a t h (fun v h' => wpOps pr os (t.pd d v) h' Q)) ∧
    (∀ (pr : Prog) (t : Tm) (h : H) (d : Option Nat) (a : AAct) (g : Nat) (w : Bool) (l : Nat) (os : List AOper) (Q : Tm → H → Prop), t.v g = .b (!w) → wpOps pr (⟨d, a, some (g, w), l⟩ :: os) t h Q = wpOps pr os (t.pd d .un) h Q) ∧
    (∀ (pr : Prog) (t : Tm) (h : H) (hs : List H) (Q : Tm → H → Prop), wpOpsD pr [] t h hs Q = Q t h) ∧
    (∀ (pr : Prog) (t : Tm) (h : H) (d : Option Nat) (a : AAct) (l : Nat) (os : List AOper) (hs : List H) (Q : Tm → H → Prop), wpOpsD pr (⟨d, a, none, l⟩ :: os) t h hs Q = wpAct pr a t h (fun v h' => andD (looked ⟨d, a, none, l⟩ t.ev v hs && Nat.ble h.nx h'.nx) (wpOpsD pr os (t.pd d v) h' (behind a h' hs) Q))) ∧
    (∀ (pr : Prog) (t : Tm) (h : H) (d : Option Nat) (a : AAct) (g : Nat) (w : Bool) (l : Nat) (os : List AOper) (hs : List H) (Q : Tm → H → Prop), t.v g = .b w → wpOpsD pr (⟨d, a, some (g, w), l⟩ :: os) t h hs Q = wpAct pr a t h (fun v h' => andD (looked ⟨d, a, none, l⟩ t.ev v hs && Nat.ble h.nx h'.nx) (wpOpsD pr os (t.pd d v) h' (behind a h' hs) Q))) ∧
    (∀ (pr : Prog) (t : Tm) (h : H) (d : Option Nat) (a : AAct) (g : Nat) (w : Bool) (l : Nat) (os : List AOper) (hs : List H) (Q : Tm → H → Prop), t.v g = .b (!w) → wpOpsD pr (⟨d, a, some (g, w), l⟩ :: os) t h hs Q = wpOpsD pr os (t.pd d .un) h (behind a h hs) Q) ∧
    (∀ (pr : Prog) (t : Tm) (h : H) (o : AOp) (K : V → H → Prop), wpAct pr (.op o) t h K = wpGot (o.ev t.ev h) K) ∧
    (∀ (pr : Prog) (t : Tm) (h : H) (f : AOpd) (args : List AOpd) (K : V → H → Prop), wpAct pr (.call f args) t h K = wpCall pr (t.ev f) (args.map t.ev) h K) ∧
    (∀ (pr : Prog) (t : Tm) (h : H) (tbl : List (Nat × Nat)) (x : AOpd) (args : List AOpd) (K : V → H → Prop), wpAct pr (.inv tbl x args) t h K = wpInv pr tbl (t.ev x) (args.map t.ev) h K) ∧
    (∀ (t : Tm) (h : H) (K : Tm → H → Prop) (Q : Ex → Tm → H → Prop), thenQ K Q .normal t h = K t h) ∧
    (∀ (t : Tm) (h : H) (K : Tm → H → Prop) (id : Nat) (Q : Ex → Tm → H → Prop), thenQ K Q (.exit id) t h = Q (.exit id) t h) ∧
    (∀ (t : Tm) (h : H) (K : Tm → H → Prop) (Q : Ex → Tm → H → Prop), thenQ K Q .ret t h = Q .ret t h) ∧
    (∀ (t : Tm) (h : H) (id : Nat) (Q : Ex → Tm → H → Prop), blockQ id Q .normal t h = Q .normal t h) ∧
    (∀ (t : Tm) (h : H) (id id' : Nat) (Q : Ex → Tm → H → Prop), id' = id → blockQ id Q (.exit id') t h = Q .normal t h) ∧
    (∀ (t : Tm) (h : H) (id id' : Nat) (Q : Ex → Tm → H → Prop), id' ≠ id → blockQ id Q (.exit id') t h = Q (.exit id') t h) ∧
    (∀ (t : Tm) (h : H) (id : Nat) (Q : Ex → Tm → H → Prop), blockQ id Q .ret t h = Q .ret t h) ∧
    (∀ (pr : Prog) (t : Tm) (h : H) (d : Option Nat) (a : AAct) (g : Nat) (w : Bool) (l : Nat) (os : List AOper) (Q : Tm → H → Prop), t.v g = .tup [] → wpOps pr (⟨d, a, some (g, w), l⟩ :: os) t h Q = wpOps pr os (t.pd d .un) h Q) ∧
    (∀ (pr : Prog) (t : Tm) (h : H) (d : Option Nat) (a : AAct) (g : Nat) (w : Bool) (l : Nat) (os : List AOper) (hs : List H) (Q : Tm → H → Prop), t.v g = .tup [] → wpOpsD pr (⟨d, a, some (g, w), l⟩ :: os) t h hs Q = wpOpsD pr os (t.pd d .un) h (behind a h hs) Q) :=
  ⟨by intros; exact propext wpA_seq,
    by intros; exact propext wpA_skip,
    by intros; exact propext wpA_ret,
    by intros; exact propext wpA_exit,
    by intros; exact propext wpA_block,
    by intros; exact propext (wpA_cond_t ‹_›),
    by intros; exact propext (wpA_cond_f ‹_›),
    by intros; exact wpA_region',
    by intros; exact wpA_regionD',
    by intros; rfl,
    by intros; exact wpOps_u,
    by intros; exact wpOps_t ‹_›,
    by intros; exact wpOps_f ‹_›,
    by intros; rfl,
    by intros; exact wpOpsD_u,
    by intros; exact wpOpsD_t ‹_›,
    by intros; exact wpOpsD_f ‹_›,
    by intros; rfl,
    by intros; rfl,
    by intros; rfl,
    by intros; rfl,
    by intros; rfl,
    by intros; rfl,
    by intros; rfl,
    by intros; rw [blockQ_exit, if_pos ‹_›],
    by intros; rw [blockQ_exit, if_neg ‹_›],
    by intros; rfl,
    by intros; exact wpOps_n ‹_›,
    by intros; exact wpOpsD_n ‹_›⟩

theorem wrap_i64 {x : Int} (h1 : -9223372036854775808 ≤ x) (h2 : x < 9223372036854775808) : IntKind.wrap .i64 x = x := by
  unfold IntKind.wrap
  simp only [IntKind.bits, IntKind.signed]
  simp
  omega
attribute [go_sem] wpGot_some andD_true looked behind lookOk AAct.kind AOp.kind ble_same ble_add wpRes evRes resV
  AOp.ev v_pd v_pd0 v_args_cons v_args_nil ev_t ev_c ev_fn bin binI binS shiftI eqV un bound boundO fill fillRows aggOf keyEq findKey putKey V.cells V.flat byteOf bytesOf rdOf rd_of H.wr H.kOf splice isYl
  H.get_push H.get_set H.get_kill nx_push nx_set nx_kill
  Option.bind_some Option.bind_none Option.map_some Option.map_none Option.getD_some Option.getD_none
  List.length_cons List.length_nil List.take_succ_cons List.take_zero List.take_nil List.drop_succ_cons List.drop_zero List.drop_nil List.nil_append List.append_nil List.cons_append List.getElem?_cons_zero List.getElem?_cons_succ List.getElem?_nil
  List.map_cons List.map_nil List.all_cons List.all_nil List.set_cons_zero List.set_cons_succ List.replicate_succ List.replicate_zero V.beq_refl
  ge_iff_le gt_iff_lt decide_true decide_false Bool.not_true Bool.not_false Bool.true_and Bool.false_and Bool.and_true Bool.and_false Bool.or_true Bool.true_or Bool.or_false Bool.false_or Bool.not_not not_true_eq_false not_false_eq_true Bool.false_eq_true Bool.true_eq_false
  or_false false_or or_true true_or or_self false_and and_false
  ne_eq true_and and_true and_self if_true if_false ite_true ite_false decide_eq_true_eq decide_eq_false_iff_not V.b.injEq Option.some.injEq
  Int.cast_ofNat_Int Int.toNat_natCast Int.natCast_nonneg Int.lt_irrefl Int.toNat_zero
  H.rseg H.bseg H.rput H.bput H.loseR H.loseB appRows appBytes roomOk List.isEmpty_nil
  Nat.left_eq_add Nat.add_eq_left Nat.add_assoc Nat.add_left_cancel_iff Nat.add_eq_zero_iff Nat.le_add_right Nat.add_zero Nat.zero_add exists_eq_left' exists_eq_left

/-- the plain theorems of a step, as one -/
theorem SB : type_of% (And.intro (And.intro (And.intro (And.intro (And.intro (And.intro @wpGot_some (And.intro @andD_true @ble_same)) (And.intro @ble_add (And.intro @v_pd @v_pd0))) (And.intro (And.intro @v_args_cons (And.intro @v_args_nil @ev_t)) (And.intro (And.intro @ev_c @ev_fn) (And.intro @rd_of @H.get_push)))) (And.intro (And.intro (And.intro @H.get_set (And.intro @H.get_kill @nx_push)) (And.intro @nx_set (And.intro @nx_kill @Option.bind_some.{0, 0}))) (And.intro (And.intro @Option.bind_none.{0, 0} (And.intro @Option.map_some.{0, 0} @Option.map_none.{0, 0})) (And.intro (And.intro @Option.getD_some.{0} @Option.getD_none.{0}) (And.intro @List.length_cons.{0} @List.length_nil.{0}))))) (And.intro (And.intro (And.intro (And.intro @List.take_succ_cons.{0} (And.intro @List.take_zero.{0} @List.take_nil.{0})) (And.intro @List.drop_succ_cons.{0} (And.intro @List.drop_zero.{0} @List.drop_nil.{0}))) (And.intro (And.intro @List.nil_append.{0} (And.intro @List.append_nil.{0} @List.cons_append.{0})) (And.intro (And.intro @List.getElem?_cons_zero.{0} @List.getElem?_cons_succ.{0}) (And.intro @List.getElem?_nil.{0} @List.map_cons.{0, 0})))) (And.intro (And.intro (And.intro @List.map_nil.{0, 0} (And.intro @List.all_cons.{0} @List.all_nil.{0})) (And.intro @List.set_cons_zero.{0} (And.intro @List.set_cons_succ.{0} @List.replicate_succ.{0}))) (And.intro (And.intro @List.replicate_zero.{0} (And.intro @V.beq_refl @ge_iff_le.{0})) (And.intro (And.intro @gt_iff_lt.{0} @decide_true) (And.intro @decide_false @Bool.not_true)))))) (And.intro (And.intro (And.intro (And.intro (And.intro @Bool.not_false (And.intro @Bool.true_and @Bool.false_and)) (And.intro @Bool.and_true (And.intro @Bool.and_false @Bool.or_true))) (And.intro (And.intro @Bool.true_or (And.intro @Bool.or_false @Bool.false_or)) (And.intro (And.intro @Bool.not_not @not_true_eq_false) (And.intro @not_false_eq_true @Bool.false_eq_true)))) (And.intro (And.intro (And.intro @Bool.true_eq_false (And.intro @or_false @false_or)) (And.intro @or_true (And.intro @true_or @or_self))) (And.intro (And.intro @false_and (And.intro @and_false @ne_eq.{1})) (And.intro (And.intro @true_and @and_true) (And.intro @and_self @if_true.{1}))))) (And.intro (And.intro (And.intro (And.intro @if_true.{0} (And.intro @if_false.{1} @if_false.{0})) (And.intro @ite_true.{1} (And.intro @ite_true.{0} @ite_false.{1}))) (And.intro (And.intro @ite_false.{0} (And.intro @decide_eq_true_eq @decide_eq_false_iff_not)) (And.intro (And.intro @V.b.injEq @Option.some.injEq.{0}) (And.intro @Int.cast_ofNat_Int @Int.toNat_natCast)))) (And.intro (And.intro (And.intro @Int.natCast_nonneg (And.intro @Int.lt_irrefl @Int.toNat_zero)) (And.intro (And.intro @List.isEmpty_nil.{0} @Nat.left_eq_add) (And.intro @Nat.add_eq_left @Nat.add_assoc))) (And.intro (And.intro @Nat.add_left_cancel_iff (And.intro @Nat.add_eq_zero_iff @Nat.le_add_right)) (And.intro (And.intro @Nat.add_zero @Nat.zero_add) (And.intro @exists_eq_left'.{1} @exists_eq_left.{1}))))))) :=
  (And.intro (And.intro (And.intro (And.intro (And.intro (And.intro @wpGot_some (And.intro @andD_true @ble_same)) (And.intro @ble_add (And.intro @v_pd @v_pd0))) (And.intro (And.intro @v_args_cons (And.intro @v_args_nil @ev_t)) (And.intro (And.intro @ev_c @ev_fn) (And.intro @rd_of @H.get_push)))) (And.intro (And.intro (And.intro @H.get_set (And.intro @H.get_kill @nx_push)) (And.intro @nx_set (And.intro @nx_kill @Option.bind_some.{0, 0}))) (And.intro (And.intro @Option.bind_none.{0, 0} (And.intro @Option.map_some.{0, 0} @Option.map_none.{0, 0})) (And.intro (And.intro @Option.getD_some.{0} @Option.getD_none.{0}) (And.intro @List.length_cons.{0} @List.length_nil.{0}))))) (And.intro (And.intro (And.intro (And.intro @List.take_succ_cons.{0} (And.intro @List.take_zero.{0} @List.take_nil.{0})) (And.intro @List.drop_succ_cons.{0} (And.intro @List.drop_zero.{0} @List.drop_nil.{0}))) (And.intro (And.intro @List.nil_append.{0} (And.intro @List.append_nil.{0} @List.cons_append.{0})) (And.intro (And.intro @List.getElem?_cons_zero.{0} @List.getElem?_cons_succ.{0}) (And.intro @List.getElem?_nil.{0} @List.map_cons.{0, 0})))) (And.intro (And.intro (And.intro @List.map_nil.{0, 0} (And.intro @List.all_cons.{0} @List.all_nil.{0})) (And.intro @List.set_cons_zero.{0} (And.intro @List.set_cons_succ.{0} @List.replicate_succ.{0}))) (And.intro (And.intro @List.replicate_zero.{0} (And.intro @V.beq_refl @ge_iff_le.{0})) (And.intro (And.intro @gt_iff_lt.{0} @decide_true) (And.intro @decide_false @Bool.not_true)))))) (And.intro (And.intro (And.intro (And.intro (And.intro @Bool.not_false (And.intro @Bool.true_and @Bool.false_and)) (And.intro @Bool.and_true (And.intro @Bool.and_false @Bool.or_true))) (And.intro (And.intro @Bool.true_or (And.intro @Bool.or_false @Bool.false_or)) (And.intro (And.intro @Bool.not_not @not_true_eq_false) (And.intro @not_false_eq_true @Bool.false_eq_true)))) (And.intro (And.intro (And.intro @Bool.true_eq_false (And.intro @or_false @false_or)) (And.intro @or_true (And.intro @true_or @or_self))) (And.intro (And.intro @false_and (And.intro @and_false @ne_eq.{1})) (And.intro (And.intro @true_and @and_true) (And.intro @and_self @if_true.{1}))))) (And.intro (And.intro (And.intro (And.intro @if_true.{0} (And.intro @if_false.{1} @if_false.{0})) (And.intro @ite_true.{1} (And.intro @ite_true.{0} @ite_false.{1}))) (And.intro (And.intro @ite_false.{0} (And.intro @decide_eq_true_eq @decide_eq_false_iff_not)) (And.intro (And.intro @V.b.injEq @Option.some.injEq.{0}) (And.intro @Int.cast_ofNat_Int @Int.toNat_natCast)))) (And.intro (And.intro (And.intro @Int.natCast_nonneg (And.intro @Int.lt_irrefl @Int.toNat_zero)) (And.intro (And.intro @List.isEmpty_nil.{0} @Nat.left_eq_add) (And.intro @Nat.add_eq_left @Nat.add_assoc))) (And.intro (And.intro @Nat.add_left_cancel_iff (And.intro @Nat.add_eq_zero_iff @Nat.le_add_right)) (And.intro (And.intro @Nat.add_zero @Nat.zero_add) (And.intro @exists_eq_left'.{1} @exists_eq_left.{1})))))))

end Am

/- AmSl: slices of one's own: what they hold, appends, parts. -/
namespace Am
set_option linter.unusedVariables false
set_option linter.unusedSimpArgs false

/-- A slice's block. -/
def blkOf (a : Option (Nat × Nat)) : Option Nat := a.map (·.1)
/-- Rows that a slice of one's own holds. -/
def RSl (h : H) (k : Nat) (a : Option (Nat × Nat)) (n c : Nat) (rows : List (List V)) : Prop :=
  rows.length = n ∧ n ≤ c ∧ match a with
    | none => c = 0
    | some (b, r) => b < h.nx ∧ ∃ all, h.get b = some (.rows k all false) ∧ r + c ≤ all.length ∧ (all.drop r).take n = rows
def BSl (h : H) (a : Option (Nat × Nat)) (n c : Nat) (bs : List UInt8) : Prop :=
  bs.length = n ∧ n ≤ c ∧ match a with
    | none => c = 0
    | some (b, r) => b < h.nx ∧ ∃ all, h.get b = some (.bytes all false) ∧ r + c ≤ all.length ∧ (all.drop r).take n = bs

variable {h g : H} {k n c : Nat} {a : Option (Nat × Nat)} {rows : List (List V)} {bs : List UInt8}

theorem RSl.nil (h : H) (k : Nat) : RSl h k none 0 0 [] := ⟨rfl, Nat.le_refl _, rfl⟩
theorem BSl.nil (h : H) : BSl h none 0 0 [] := ⟨rfl, Nat.le_refl _, rfl⟩
theorem RSl.keep (o : RSl h k a n c rows) (hn : h.nx ≤ g.nx) (hk : ∀ i, blkOf a = some i → g.get i = h.get i) : RSl g k a n c rows := by
  obtain ⟨h1, h2, h3⟩ := o
  refine ⟨h1, h2, ?_⟩
  cases a with
  | none => exact h3
  | some p =>
    obtain ⟨b, r⟩ := p
    obtain ⟨hb, all, hg, x, y⟩ := h3
    exact ⟨by omega, all, by rw [hk b rfl]; exact hg, x, y⟩
theorem BSl.keep (o : BSl h a n c bs) (hn : h.nx ≤ g.nx) (hk : ∀ i, blkOf a = some i → g.get i = h.get i) : BSl g a n c bs := by
  obtain ⟨h1, h2, h3⟩ := o
  refine ⟨h1, h2, ?_⟩
  cases a with
  | none => exact h3
  | some p =>
    obtain ⟨b, r⟩ := p
    obtain ⟨hb, all, hg, x, y⟩ := h3
    exact ⟨by omega, all, by rw [hk b rfl]; exact hg, x, y⟩
theorem RSl.lt (o : RSl h k a n c rows) {b : Nat} (hb : blkOf a = some b) : b < h.nx := by
  cases a with
  | none => cases hb
  | some p => obtain ⟨b', r⟩ := p; cases hb; exact o.2.2.1
theorem BSl.lt (o : BSl h a n c bs) {b : Nat} (hb : blkOf a = some b) : b < h.nx := by
  cases a with
  | none => cases hb
  | some p => obtain ⟨b', r⟩ := p; cases hb; exact o.2.2.1
theorem RSl.rseg (o : RSl h k a n c rows) : h.rseg k a n = some rows := by
  obtain ⟨h1, h2, h3⟩ := o
  unfold H.rseg
  by_cases hn : n = 0
  · subst hn; rw [if_pos rfl, List.eq_nil_of_length_eq_zero h1]
  · rw [if_neg hn]
    cases a with
    | none => simp only at h3; omega
    | some p =>
      obtain ⟨b, r⟩ := p
      obtain ⟨hb, all, hg, x, y⟩ := h3
      simp only [hg]
      rw [if_pos ⟨trivial, by omega⟩, y]
theorem BSl.bseg (o : BSl h a n c bs) : h.bseg a n = some bs := by
  obtain ⟨h1, h2, h3⟩ := o
  unfold H.bseg
  by_cases hn : n = 0
  · subst hn; rw [if_pos rfl, List.eq_nil_of_length_eq_zero h1]
  · rw [if_neg hn]
    cases a with
    | none => simp only at h3; omega
    | some p =>
      obtain ⟨b, r⟩ := p
      obtain ⟨hb, all, hg, x, y⟩ := h3
      simp only [hg]
      rw [if_pos (by omega), y]

theorem splice_took {α : Type} {all ys : List α} {r n c : Nat} (hc : r + c ≤ all.length) (hn : n + ys.length ≤ c) : ((splice all (r + n) ys).drop r).take (n + ys.length) = (all.drop r).take n ++ ys := by
  unfold splice
  apply List.ext_getElem?
  intro i
  by_cases hi : i < n + ys.length
  · rw [List.getElem?_take_of_lt hi, List.getElem?_drop]
    by_cases h1 : i < n
    · rw [List.append_assoc, List.getElem?_append_left (by rw [List.length_take]; omega), List.getElem?_take_of_lt (by omega), List.getElem?_append_left (by rw [List.length_take, List.length_drop]; omega),
        List.getElem?_take_of_lt h1, List.getElem?_drop]
    · rw [List.getElem?_append_left (by rw [List.length_append, List.length_take]; omega), List.getElem?_append_right (by rw [List.length_take]; omega),
        List.getElem?_append_right (by rw [List.length_take, List.length_drop]; omega), List.length_take, List.length_take, List.length_drop]
      congr 1; omega
  · rw [List.getElem?_eq_none (by rw [List.length_take]; omega), List.getElem?_eq_none (by rw [List.length_append, List.length_take]; omega)]
theorem splice_len {α : Type} {all ys : List α} {i : Nat} (h : i + ys.length ≤ all.length) : (splice all i ys).length = all.length := by
  unfold splice
  simp only [List.length_append, List.length_take, List.length_drop]; omega

/-- What an append leaves as it was. -/
def AppKept (h : H) (a : Option (Nat × Nat)) (g : H) (a' : Option (Nat × Nat)) : Prop :=
  h.nx ≤ g.nx ∧ (∀ i, i < h.nx → blkOf a ≠ some i → g.get i = h.get i) ∧ ((blkOf a' = blkOf a ∧ g.nx = h.nx) ∨ (blkOf a' = some h.nx ∧ g.nx = h.nx + 1))

theorem RSl.app (o : RSl h k a n c rows) {bytes : Nat} {ex : Bool} {new : List (List V)} (hr : roomOk (n + new.length) bytes = true) :
    ∃ a' c' ex' g, appRows h k bytes a n c ex new = some (.sl a' (n + new.length) c' ex', g) ∧ RSl g k a' (n + new.length) c' (rows ++ new) ∧ AppKept h a g a' := by
  have hseg := o.rseg
  obtain ⟨h1, h2, h3⟩ := o
  unfold appRows
  by_cases hc : n + new.length ≤ c
  · rw [if_pos hc]
    unfold H.rput
    by_cases hz : new = []
    · subst hz
      rw [if_pos rfl]
      exact ⟨a, c, ex, h, by simp, ⟨by simp [h1], by simpa using h2, by simpa using h3⟩, Nat.le_refl _, fun _ _ _ => rfl, .inl ⟨rfl, rfl⟩⟩
    · rw [if_neg hz]
      have hlen : 0 < new.length := List.length_pos_iff.2 hz
      cases a with
      | none => simp only at h3; omega
      | some p =>
        obtain ⟨b, r⟩ := p
        obtain ⟨hb, all, hg, x, y⟩ := h3
        simp only [hg]
        rw [if_pos ⟨trivial, by omega⟩]
        refine ⟨some (b, r), c, ex, _, rfl, ⟨by simp [h1], hc, hb, _, by rw [H.get_set, if_pos rfl], by rw [splice_len (by omega)]; exact x, by rw [splice_took x hc, y]⟩, Nat.le_refl _, ?_, .inl ⟨rfl, rfl⟩⟩
        intro i hi hne
        rw [H.get_set, if_neg (by rintro rfl; exact hne rfl)]
  · rw [if_neg hc, if_pos hr, hseg, Option.bind_some]
    have hlose : ∃ h', h.loseR k a ex = some h' ∧ h'.nx = h.nx ∧ ∀ i, i < h.nx → blkOf a ≠ some i → h'.get i = h.get i := by
      unfold H.loseR
      by_cases he : ex = true
      · rw [if_pos he]; exact ⟨h, rfl, rfl, fun _ _ _ => rfl⟩
      · rw [if_neg he]
        cases a with
        | none => exact ⟨h, rfl, rfl, fun _ _ _ => rfl⟩
        | some p =>
          obtain ⟨b, r⟩ := p
          obtain ⟨hb, all, hg, x, y⟩ := h3
          simp only [hg, if_true]
          exact ⟨_, rfl, rfl, fun i hi hne => by rw [H.get_kill, if_neg (by rintro rfl; exact hne rfl)]⟩
    obtain ⟨h', hl', hx', hk'⟩ := hlose
    rw [hl', Option.bind_some]
    refine ⟨_, _, _, _, rfl, ⟨by simp [h1], Nat.le_refl _, ?_, rows ++ new, by rw [H.get_push, if_pos rfl], by simp [h1], by rw [List.drop_zero]; exact List.take_of_length_le (by rw [List.length_append]; omega)⟩, ?_, ?_, .inr ⟨by rw [← hx']; rfl, by rw [← hx']; rfl⟩⟩
    · show h'.nx < h'.nx + 1; omega
    · show h.nx ≤ h'.nx + 1; omega
    · intro i hi hne
      rw [H.get_push, if_neg (by omega)]
      exact hk' i hi hne

theorem BSl.app (o : BSl h a n c bs) {bytes : Nat} {ex : Bool} {new : List UInt8} (hr : roomOk (n + new.length) bytes = true) :
    ∃ a' c' ex' g, appBytes h bytes a n c ex new = some (.sl a' (n + new.length) c' ex', g) ∧ BSl g a' (n + new.length) c' (bs ++ new) ∧ AppKept h a g a' := by
  have hseg := o.bseg
  obtain ⟨h1, h2, h3⟩ := o
  unfold appBytes
  by_cases hc : n + new.length ≤ c
  · rw [if_pos hc]
    unfold H.bput
    by_cases hz : new = []
    · subst hz
      rw [if_pos rfl]
      exact ⟨a, c, ex, h, by simp, ⟨by simp [h1], by simpa using h2, by simpa using h3⟩, Nat.le_refl _, fun _ _ _ => rfl, .inl ⟨rfl, rfl⟩⟩
    · rw [if_neg hz]
      have hlen : 0 < new.length := List.length_pos_iff.2 hz
      cases a with
      | none => simp only at h3; omega
      | some p =>
        obtain ⟨b, r⟩ := p
        obtain ⟨hb, all, hg, x, y⟩ := h3
        simp only [hg]
        rw [if_pos (by omega)]
        refine ⟨some (b, r), c, ex, _, rfl, ⟨by simp [h1], hc, hb, _, by rw [H.get_set, if_pos rfl], by rw [splice_len (by omega)]; exact x, by rw [splice_took x hc, y]⟩, Nat.le_refl _, ?_, .inl ⟨rfl, rfl⟩⟩
        intro i hi hne
        rw [H.get_set, if_neg (by rintro rfl; exact hne rfl)]
  · rw [if_neg hc, if_pos hr, hseg, Option.bind_some]
    have hlose : ∃ h', h.loseB a ex = some h' ∧ h'.nx = h.nx ∧ ∀ i, i < h.nx → blkOf a ≠ some i → h'.get i = h.get i := by
      unfold H.loseB
      by_cases he : ex = true
      · rw [if_pos he]; exact ⟨h, rfl, rfl, fun _ _ _ => rfl⟩
      · rw [if_neg he]
        cases a with
        | none => exact ⟨h, rfl, rfl, fun _ _ _ => rfl⟩
        | some p =>
          obtain ⟨b, r⟩ := p
          obtain ⟨hb, all, hg, x, y⟩ := h3
          simp only [hg, if_true]
          exact ⟨_, rfl, rfl, fun i hi hne => by rw [H.get_kill, if_neg (by rintro rfl; exact hne rfl)]⟩
    obtain ⟨h', hl', hx', hk'⟩ := hlose
    rw [hl', Option.bind_some]
    refine ⟨_, _, _, _, rfl, ⟨by simp [h1], Nat.le_refl _, ?_, bs ++ new, by rw [H.get_push, if_pos rfl], by simp [h1], by rw [List.drop_zero]; exact List.take_of_length_le (by rw [List.length_append]; omega)⟩, ?_, ?_, .inr ⟨by rw [← hx']; rfl, by rw [← hx']; rfl⟩⟩
    · show h'.nx < h'.nx + 1; omega
    · show h.nx ≤ h'.nx + 1; omega
    · intro i hi hne
      rw [H.get_push, if_neg (by omega)]
      exact hk' i hi hne

/-- From i on. -/
theorem RSl.from {b r : Nat} (o : RSl h k (some (b, r)) n c rows) {i : Nat} (hi : i ≤ n) : RSl h k (some (b, r + i)) (n - i) (c - i) (rows.drop i) := by
  obtain ⟨h1, h2, hb, all, hg, x, y⟩ := o
  refine ⟨by rw [List.length_drop, h1], by omega, hb, all, hg, by omega, ?_⟩
  rw [← y, List.drop_take, List.drop_drop]
theorem BSl.from {b r : Nat} (o : BSl h (some (b, r)) n c bs) {i : Nat} (hi : i ≤ n) : BSl h (some (b, r + i)) (n - i) (c - i) (bs.drop i) := by
  obtain ⟨h1, h2, hb, all, hg, x, y⟩ := o
  refine ⟨by rw [List.length_drop, h1], by omega, hb, all, hg, by omega, ?_⟩
  rw [← y, List.drop_take, List.drop_drop]
/-- What is there. -/
theorem RSl.at {b r : Nat} (o : RSl h k (some (b, r)) n c rows) : ∃ all, h.get b = some (.rows k all false) ∧ ∀ i row, rows[i]? = some row → all[r + i]? = some row := by
  obtain ⟨h1, h2, hb, all, hg, x, y⟩ := o
  refine ⟨all, hg, fun i row hi => ?_⟩
  have hlt : i < n := by have := (List.getElem?_eq_some_iff.1 hi).1; omega
  rw [← y, List.getElem?_take_of_lt hlt, List.getElem?_drop] at hi
  exact hi
theorem BSl.at {b r : Nat} (o : BSl h (some (b, r)) n c bs) : ∃ all, h.get b = some (.bytes all false) ∧ ∀ i x, bs[i]? = some x → all[r + i]? = some x := by
  obtain ⟨h1, h2, hb, all, hg, x, y⟩ := o
  refine ⟨all, hg, fun i row hi => ?_⟩
  have hlt : i < n := by have := (List.getElem?_eq_some_iff.1 hi).1; omega
  rw [← y, List.getElem?_take_of_lt hlt, List.getElem?_drop] at hi
  exact hi
/-- Not empty: it has a place. -/
theorem RSl.pos (o : RSl h k a n c rows) (hn : 0 < n) : ∃ b r, a = some (b, r) := by
  cases a with
  | none => have := o.2.1; have := o.2.2; simp only at this; omega
  | some p => exact ⟨_, _, rfl⟩
theorem BSl.pos (o : BSl h a n c bs) (hn : 0 < n) : ∃ b r, a = some (b, r) := by
  cases a with
  | none => have := o.2.1; have := o.2.2; simp only at this; omega
  | some p => exact ⟨_, _, rfl⟩
end Am

