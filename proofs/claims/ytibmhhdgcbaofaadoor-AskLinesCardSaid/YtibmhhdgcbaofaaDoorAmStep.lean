/- AmStep: rules that step through code. -/
import Derived.Test.YtibmhhdgcbaofaaDoorAmWp
import Derived.Attr
namespace Am
set_option linter.unusedVariables false
set_option linter.unusedSimpArgs false
open Go (IntKind BinOp UnOp)

variable {pr : Prog} {nt : Nat} {ar : Option Nat} {t : Tm} {h : H}

/-- What was got, handed on. -/
def wpGot (o : Option (V × H)) (K : V → H → Prop) : Prop := ∃ r, o = some r ∧ K r.1 r.2
@[congr] theorem wpGot_congr {o o' : Option (V × H)} {K : V → H → Prop} (h : o = o') : wpGot o K = wpGot o' K := by rw [h]
theorem wpGot_some {v : V} {h : H} {K : V → H → Prop} : wpGot (some (v, h)) K = K v h := by
  unfold wpGot; exact propext ⟨fun ⟨r, a, b⟩ => by cases a; exact b, fun b => ⟨_, rfl, b⟩⟩
theorem wpOp_got {op : AOp} {K : V → H → Prop} : wpOp op t h K = wpGot (op.ev t.ev h) K := rfl

theorem wpOps_nil {Q : Tm → H → Prop} : wpOps pr [] t h Q = Q t h := rfl
theorem wpOps_u {d : Option Nat} {a : AAct} {l : Nat} {os : List AOper} {Q : Tm → H → Prop} : wpOps pr (⟨d, a, none, l⟩ :: os) t h Q = wpAct pr a t h (fun v h' => wpOps pr os (t.pd d v) h' Q) := by
  rw [wpOps]; exact if_pos rfl
theorem wpOps_t {d : Option Nat} {a : AAct} {g : Nat} {w : Bool} {l : Nat} {os : List AOper} {Q : Tm → H → Prop} (hw : t.v g = .b w) : wpOps pr (⟨d, a, some (g, w), l⟩ :: os) t h Q = wpAct pr a t h (fun v h' => wpOps pr os (t.pd d v) h' Q) := by
  rw [wpOps]; exact if_pos (by simp [AOper.wanted, hw])
theorem wpOps_f {d : Option Nat} {a : AAct} {g : Nat} {w : Bool} {l : Nat} {os : List AOper} {Q : Tm → H → Prop} (hw : t.v g = .b (!w)) : wpOps pr (⟨d, a, some (g, w), l⟩ :: os) t h Q = wpOps pr os (t.pd d .un) h Q := by
  rw [wpOps]; exact if_neg (by simp [AOper.wanted, hw])
theorem wpOps_n {d : Option Nat} {a : AAct} {g : Nat} {w : Bool} {l : Nat} {os : List AOper} {Q : Tm → H → Prop} (hw : t.v g = .tup []) : wpOps pr (⟨d, a, some (g, w), l⟩ :: os) t h Q = wpOps pr os (t.pd d .un) h Q := by
  rw [wpOps]; exact if_neg (by simp [AOper.wanted, hw])
theorem wpAct_op {o : AOp} {K : V → H → Prop} : wpAct pr (.op o) t h K = wpGot (o.ev t.ev h) K := rfl
theorem wpAct_call {f : AOpd} {args : List AOpd} {K : V → H → Prop} : wpAct pr (.call f args) t h K = wpCall pr (t.ev f) (args.map t.ev) h K := rfl
@[congr] theorem wpCall_congr {f f' : V} {as as' : List V} {K : V → H → Prop} (hf : f = f') (ha : as = as') : wpCall pr f as h K = wpCall pr f' as' h K := by rw [hf, ha]
@[congr] theorem wpInv_congr {tbl : List (Nat × Nat)} {x x' : V} {as as' : List V} {K : V → H → Prop} (hf : x = x') (ha : as = as') : wpInv pr tbl x as h K = wpInv pr tbl x' as' h K := by rw [hf, ha]
theorem wpInv_call {tbl : List (Nat × Nat)} {ty f : Nat} {v : V} {as : List V} {K : V → H → Prop} (hin : inTbl tbl ty = some f) : wpInv pr tbl (.ifc ty v) as h K = wpCall pr (.f (.fn f) []) (v :: as) h K := by
  unfold wpInv wpCall
  simp only [hin, List.append_nil]
theorem wpCall_ext {f : Nat} {g : List V → H → Option (V × H)} (he : pr.ext f = some g) {as caps : List V} {h : H} {K : V → H → Prop} (hy : isYl (as ++ caps) = false) : wpCall pr (.f (.fn f) caps) as h K = wpGot (g (as ++ caps) h) K := by
  show Runs pr (.fn f) (as ++ caps) h K = _
  refine propext ⟨?_, ?_⟩
  · rintro ⟨n, v, h', a, b⟩
    cases n with
    | zero => cases a
    | succ n =>
      simp only [runN, evCal, he, hy] at a
      exact ⟨_, a, b⟩
  · rintro ⟨r, a, b⟩
    exact runs_ext he hy a b

theorem v_pd {d : Nat} {v : V} {n : Nat} : (t.pd (some d) v).v n = if n = d then v else t.v n := Tm.v_st _ _ _ _
theorem v_pd0 {v : V} {n : Nat} : (t.pd none v).v n = t.v n := rfl
theorem v_args_nil {i n : Nat} : (Tm.args [] i).v n = .un := by simp [Tm.args, Tm.v, Tr.get_e]
theorem v_args_cons {v : V} {vs : List V} {i n : Nat} : (Tm.args (v :: vs) i).v n = if n = i then v else (Tm.args vs (i + 1)).v n := Tm.v_st _ _ _ _
theorem ev_t {n : Nat} : t.ev (.t n) = t.v n := rfl
theorem ev_c {v : V} : t.ev (.c v) = v := rfl
theorem ev_fn {f : Nat} : t.ev (.fn f) = .f (.fn f) [] := rfl

theorem wpA_region' {ops : List AOper} {Q : Ex → Tm → H → Prop} : wpA pr nt ar (.region ops) t h Q = wpOps pr ops t h (Q .normal) := propext wpA_region

/-! ### Regions that draw their order -/
theorem wpA_regionD' {ops : List AOper} {Q : Ex → Tm → H → Prop} : wpA pr nt ar (.regionD ops) t h Q = wpOpsD pr ops t h [h] (Q .normal) := propext wpA_regionD
theorem wpOpsD_nil {hs : List H} {Q : Tm → H → Prop} : wpOpsD pr [] t h hs Q = Q t h := rfl
def andD (b : Bool) (X : Prop) : Prop := b = true ∧ X
@[congr] theorem andD_congr {b b' : Bool} {X : Prop} (h : b = b') : andD b X = andD b' X := by rw [h]
theorem andD_true {X : Prop} : andD true X = X := by simp [andD]
theorem wpOpsD_u {d : Option Nat} {a : AAct} {l : Nat} {os : List AOper} {hs : List H} {Q : Tm → H → Prop} : wpOpsD pr (⟨d, a, none, l⟩ :: os) t h hs Q = wpAct pr a t h (fun v h' => andD (looked ⟨d, a, none, l⟩ t.ev v hs && Nat.ble h.nx h'.nx) (wpOpsD pr os (t.pd d v) h' (behind a h' hs) Q)) := by
  rw [wpOpsD]; exact if_pos rfl
theorem wpOpsD_t {d : Option Nat} {a : AAct} {g : Nat} {w : Bool} {l : Nat} {os : List AOper} {hs : List H} {Q : Tm → H → Prop} (hw : t.v g = .b w) : wpOpsD pr (⟨d, a, some (g, w), l⟩ :: os) t h hs Q = wpAct pr a t h (fun v h' => andD (looked ⟨d, a, none, l⟩ t.ev v hs && Nat.ble h.nx h'.nx) (wpOpsD pr os (t.pd d v) h' (behind a h' hs) Q)) := by
  rw [wpOpsD]; exact if_pos (by simp [AOper.wanted, hw])
theorem wpOpsD_f {d : Option Nat} {a : AAct} {g : Nat} {w : Bool} {l : Nat} {os : List AOper} {hs : List H} {Q : Tm → H → Prop} (hw : t.v g = .b (!w)) : wpOpsD pr (⟨d, a, some (g, w), l⟩ :: os) t h hs Q = wpOpsD pr os (t.pd d .un) h (behind a h hs) Q := by
  rw [wpOpsD]; exact if_neg (by simp [AOper.wanted, hw])
theorem wpOpsD_n {d : Option Nat} {a : AAct} {g : Nat} {w : Bool} {l : Nat} {os : List AOper} {hs : List H} {Q : Tm → H → Prop} (hw : t.v g = .tup []) : wpOpsD pr (⟨d, a, some (g, w), l⟩ :: os) t h hs Q = wpOpsD pr os (t.pd d .un) h (behind a h hs) Q := by
  rw [wpOpsD]; exact if_neg (by simp [AOper.wanted, hw])
theorem ble_same {n : Nat} : Nat.ble n n = true := by simp
theorem ble_add {n k : Nat} : Nat.ble n (n + k) = true := by simp

/-! ### Heaps -/
theorem nx_push {x : Blk} : (h.push x).nx = h.nx + 1 := rfl
theorem nx_set {b : Nat} {x : Blk} : (h.set b x).nx = h.nx := rfl
theorem nx_kill {b : Nat} : (h.kill b).nx = h.nx := rfl

/-! ### Rows -/
def rdOf (x : Option Blk) (r f n : Nat) : Option (List V) :=
  match x with
  | some (.rows _ rs _) => (rs[r]?).bind fun row => if f + n ≤ row.length then some ((row.drop f).take n) else none
  | some (.bytes bs _) => (bs[r]?).bind fun c => if f + n ≤ 1 then some (([.i .u8 c.toNat].drop f).take n) else none
  | _ => none
theorem rd_of {b r f n : Nat} : h.rd b r f n = rdOf (h.get b) r f n := by
  unfold H.rd H.row rdOf
  cases h.get b with
  | none => rfl
  | some x =>
    cases x with
    | rows k rs ro => rfl
    | bytes bs ro => simp only [Option.bind_map, Function.comp_def, List.length_cons, List.length_nil]
    | _ => rfl

/-- The rules that go ahead of what they hold: 'simp only [↓STEP, ..]'. -/
theorem STEP :
    (∀ (pr : Prog) (nt : Nat) (ar : Option Nat) (t : Tm) (h : H) (a b : ACode) (Q : Ex → Tm → H → Prop), wpA pr nt ar (.seq a b) t h Q = wpA pr nt ar a t h (thenQ (fun t h => wpA pr nt ar b t h Q) Q)) ∧
    (∀ (pr : Prog) (nt : Nat) (ar : Option Nat) (t : Tm) (h : H) (Q : Ex → Tm → H → Prop), wpA pr nt ar .skip t h Q = Q .normal t h) ∧
    (∀ (pr : Prog) (nt : Nat) (ar : Option Nat) (t : Tm) (h : H) (Q : Ex → Tm → H → Prop), wpA pr nt ar .ret t h Q = Q .ret t h) ∧
    (∀ (pr : Prog) (nt : Nat) (ar : Option Nat) (t : Tm) (h : H) (id : Nat) (Q : Ex → Tm → H → Prop), wpA pr nt ar (.exit id) t h Q = Q (.exit id) t h) ∧
    (∀ (pr : Prog) (nt : Nat) (ar : Option Nat) (t : Tm) (h : H) (id : Nat) (c : ACode) (Q : Ex → Tm → H → Prop), wpA pr nt ar (.block id c) t h Q = wpA pr nt ar c t h (blockQ id Q)) ∧
    (∀ (pr : Prog) (nt : Nat) (ar : Option Nat) (t : Tm) (h : H) (c : AOpd) (x y : ACode) (Q : Ex → Tm → H → Prop), t.ev c = .b true → wpA pr nt ar (.cond c x y) t h Q = wpA pr nt ar x t h Q) ∧
    (∀ (pr : Prog) (nt : Nat) (ar : Option Nat) (t : Tm) (h : H) (c : AOpd) (x y : ACode) (Q : Ex → Tm → H → Prop), t.ev c = .b false → wpA pr nt ar (.cond c x y) t h Q = wpA pr nt ar y t h Q) ∧
    (∀ (pr : Prog) (nt : Nat) (ar : Option Nat) (t : Tm) (h : H) (ops : List AOper) (Q : Ex → Tm → H → Prop), wpA pr nt ar (.region ops) t h Q = wpOps pr ops t h (Q .normal)) ∧
    (∀ (pr : Prog) (nt : Nat) (ar : Option Nat) (t : Tm) (h : H) (ops : List AOper) (Q : Ex → Tm → H → Prop), wpA pr nt ar (.regionD ops) t h Q = wpOpsD pr ops t h [h] (Q .normal)) ∧
    (∀ (pr : Prog) (t : Tm) (h : H) (Q : Tm → H → Prop), wpOps pr [] t h Q = Q t h) ∧
    (∀ (pr : Prog) (t : Tm) (h : H) (d : Option Nat) (a : AAct) (l : Nat) (os : List AOper) (Q : Tm → H → Prop), wpOps pr (⟨d, a, none, l⟩ :: os) t h Q = wpAct pr a t h (fun v h' => wpOps pr os (t.pd d v) h' Q)) ∧
    (∀ (pr : Prog) (t : Tm) (h : H) (d : Option Nat) (a : AAct) (g : Nat) (w : Bool) (l : Nat) (os : List AOper) (Q : Tm → H → Prop), t.v g = .b w → wpOps pr (⟨d, a, some (g, w), l⟩ :: os) t h Q = wpAct pr a t h (fun v h' => wpOps pr os (t.pd d v) h' Q)) ∧
    (∀ (pr : Prog) (t : Tm) (h : H) (d : Option Nat) (a : AAct) (g : Nat) (w : Bool) (l : Nat) (os : List AOper) (Q : Tm → H → Prop), t.v g = .b (!w) → wpOps pr (⟨d, a, some (g, w), l⟩ :: os) t h Q = wpOps pr os (t.pd d .un) h Q) ∧
    (∀ (pr : Prog) (t : Tm) (h : H) (hs : List H) (Q : Tm → H → Prop), wpOpsD pr [] t h hs Q = Q t h) ∧
    (∀ (pr : Prog) (t : Tm) (h : H) (d : Option Nat) (a : AAct) (l : Nat) (os : List AOper) (hs : List H) (Q : Tm → H → Prop), wpOpsD pr (⟨d, a, none, l⟩ :: os) t h hs Q = wpAct pr a t h (fun v h' => andD (looked ⟨d, a, none, l⟩ t.ev v hs && Nat.ble h.nx h'.nx) (wpOpsD pr os (t.pd d v) h' (behind a h' hs) Q))) ∧
    (∀ (pr : Prog) (t : Tm) (h : H) (d : Option Nat) (a : AAct) (g : Nat) (w : Bool) (l : Nat) (os : List AOper) (hs : List H) (Q : Tm → H → Prop), t.v g = .b w → wpOpsD pr (⟨d, a, some (g, w), l⟩ :: os) t h hs Q = wpAct pr a t h (fun v h' => andD (looked ⟨d, a, none, l⟩ t.ev v hs && Nat.ble h.nx h'.nx) (wpOpsD pr os (t.pd d v) h' (behind a h' hs) Q))) ∧
    (∀ (pr : Prog) (t : Tm) (h : H) (d : Option Nat) (a : AAct) (g : Nat) (w : Bool) (l : Nat) (os : List AOper) (hs : List H) (Q : Tm → H → Prop), t.v g = .b (!w) → wpOpsD pr (⟨d, a, some (g, w), l⟩ :: os) t h hs Q = wpOpsD pr os (t.pd d .un) h (behind a h hs) Q) ∧
    (∀ (pr : Prog) (t : Tm) (h : H) (o : AOp) (K : V → H → Prop), wpAct pr (.op o) t h K = wpGot (o.ev t.ev h) K) ∧
    (∀ (pr : Prog) (t : Tm) (h : H) (f : AOpd) (args : List AOpd) (K : V → H → Prop), wpAct pr (.call f args) t h K = wpCall pr (t.ev f) (args.map t.ev) h K) ∧
    (∀ (pr : Prog) (t : Tm) (h : H) (tbl : List (Nat × Nat)) (x : AOpd) (args : List AOpd) (K : V → H → Prop), wpAct pr (.inv tbl x args) t h K = wpInv pr tbl (t.ev x) (args.map t.ev) h K) ∧
    (∀ (t : Tm) (h : H) (K : Tm → H → Prop) (Q : Ex → Tm → H → Prop), thenQ K Q .normal t h = K t h) ∧
    (∀ (t : Tm) (h : H) (K : Tm → H → Prop) (id : Nat) (Q : Ex → Tm → H → Prop), thenQ K Q (.exit id) t h = Q (.exit id) t h) ∧
    (∀ (t : Tm) (h : H) (K : Tm → H → Prop) (Q : Ex → Tm → H → Prop), thenQ K Q .ret t h = Q .ret t h) ∧
    (∀ (t : Tm) (h : H) (id : Nat) (Q : Ex → Tm → H → Prop), blockQ id Q .normal t h = Q .normal t h) ∧
    (∀ (t : Tm) (h : H) (id id' : Nat) (Q : Ex → Tm → H → Prop), id' = id → blockQ id Q (.exit id') t h = Q .normal t h) ∧
    (∀ (t : Tm) (h : H) (id id' : Nat) (Q : Ex → Tm → H → Prop), id' ≠ id → blockQ id Q (.exit id') t h = Q (.exit id') t h) ∧
    (∀ (t : Tm) (h : H) (id : Nat) (Q : Ex → Tm → H → Prop), blockQ id Q .ret t h = Q .ret t h) ∧
    (∀ (pr : Prog) (t : Tm) (h : H) (d : Option Nat) (a : AAct) (g : Nat) (w : Bool) (l : Nat) (os : List AOper) (Q : Tm → H → Prop), t.v g = .tup [] → wpOps pr (⟨d, a, some (g, w), l⟩ :: os) t h Q = wpOps pr os (t.pd d .un) h Q) ∧
    (∀ (pr : Prog) (t : Tm) (h : H) (d : Option Nat) (a : AAct) (g : Nat) (w : Bool) (l : Nat) (os : List AOper) (hs : List H) (Q : Tm → H → Prop), t.v g = .tup [] → wpOpsD pr (⟨d, a, some (g, w), l⟩ :: os) t h hs Q = wpOpsD pr os (t.pd d .un) h (behind a h hs) Q) :=
  ⟨by intros; exact propext wpA_seq,
    by intros; exact propext wpA_skip,
    by intros; exact propext wpA_ret,
    by intros; exact propext wpA_exit,
    by intros; exact propext wpA_block,
    by intros; exact propext (wpA_cond_t ‹_›),
    by intros; exact propext (wpA_cond_f ‹_›),
    by intros; exact wpA_region',
    by intros; exact wpA_regionD',
    by intros; rfl,
    by intros; exact wpOps_u,
    by intros; exact wpOps_t ‹_›,
    by intros; exact wpOps_f ‹_›,
    by intros; rfl,
    by intros; exact wpOpsD_u,
    by intros; exact wpOpsD_t ‹_›,
    by intros; exact wpOpsD_f ‹_›,
    by intros; rfl,
    by intros; rfl,
    by intros; rfl,
    by intros; rfl,
    by intros; rfl,
    by intros; rfl,
    by intros; rfl,
    by intros; rw [blockQ_exit, if_pos ‹_›],
    by intros; rw [blockQ_exit, if_neg ‹_›],
    by intros; rfl,
    by intros; exact wpOps_n ‹_›,
    by intros; exact wpOpsD_n ‹_›⟩

theorem wrap_i64 {x : Int} (h1 : -9223372036854775808 ≤ x) (h2 : x < 9223372036854775808) : IntKind.wrap .i64 x = x := by
  unfold IntKind.wrap
  simp only [IntKind.bits, IntKind.signed]
  simp
  omega
theorem Tm.v_pd_ne {d n : Nat} {v : V} (hn : n ≠ d) : (t.pd (some d) v).v n = t.v n := by rw [v_pd, if_neg hn]
attribute [go_sem] wpGot_some andD_true looked behind lookOk AAct.kind AOp.kind ble_same ble_add wpRes evRes resV
  AOp.ev v_pd v_pd0 v_args_cons v_args_nil ev_t ev_c ev_fn bin binI binS shiftI eqV un bound boundO fill fillRows aggOf keyEq findKey putKey V.cells V.flat byteOf bytesOf rdOf rd_of H.wr H.kOf splice isYl
  H.get_push H.get_set H.get_kill nx_push nx_set nx_kill
  Option.bind_some Option.bind_none Option.map_some Option.map_none Option.getD_some Option.getD_none
  List.length_cons List.length_nil List.take_succ_cons List.take_zero List.take_nil List.drop_succ_cons List.drop_zero List.drop_nil List.nil_append List.append_nil List.cons_append List.getElem?_cons_zero List.getElem?_cons_succ List.getElem?_nil
  List.map_cons List.map_nil List.all_cons List.all_nil List.set_cons_zero List.set_cons_succ List.replicate_succ List.replicate_zero V.beq_refl
  ge_iff_le gt_iff_lt decide_true decide_false Bool.not_true Bool.not_false Bool.true_and Bool.false_and Bool.and_true Bool.and_false Bool.or_true Bool.true_or Bool.or_false Bool.false_or Bool.not_not not_true_eq_false not_false_eq_true Bool.false_eq_true Bool.true_eq_false
  or_false false_or or_true true_or or_self false_and and_false
  ne_eq true_and and_true and_self if_true if_false ite_true ite_false decide_eq_true_eq decide_eq_false_iff_not V.b.injEq Option.some.injEq
  Int.cast_ofNat_Int Int.toNat_natCast Int.natCast_nonneg Int.lt_irrefl Int.toNat_zero
  H.rseg H.bseg H.rput H.bput H.loseR H.loseB appRows appBytes roomOk List.isEmpty_nil
  Nat.left_eq_add Nat.add_eq_left Nat.add_assoc Nat.add_left_cancel_iff Nat.add_eq_zero_iff Nat.le_add_right Nat.add_zero Nat.zero_add exists_eq_left' exists_eq_left

end Am
