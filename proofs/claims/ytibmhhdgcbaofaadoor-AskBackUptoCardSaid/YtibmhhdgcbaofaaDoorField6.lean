/- What the functions of the layer 'field' answer: the pseudo-names at the front of a list, as a map. -/
import Derived.Test.YtibmhhdgcbaofaaDoorField5
namespace Am
set_option linter.unusedVariables false
set_option linter.unusedSimpArgs false
set_option maxRecDepth 20000
set_option maxHeartbeats 8000000
variable {pr : Prog}

abbrev PM := List (List UInt8 × List UInt8)
def ents (m : PM) : List (V × V) := m.map fun p => (.s p.1, .s p.2)
def look (m : PM) (k : List UInt8) : Option (List UInt8) :=
  match m with
  | [] => none
  | p :: ps => if k = p.1 then some p.2 else look ps k
theorem findKey_ents (k : List UInt8) : ∀ m : PM, findKey .str (.s k) (ents m) = some ((look m k).map .s)
  | [] => rfl
  | p :: ps => by
    simp only [ents, List.map_cons, findKey, keyEq, look]
    by_cases h : k = p.1
    · simp [h]
    · simp only [h, decide_false, if_false]; exact findKey_ents k ps
theorem putKey_new (k v : List UInt8) : ∀ m : PM, look m k = none → putKey .str (.s k) (.s v) (ents m) = some (ents (m ++ [(k, v)]))
  | [], _ => rfl
  | p :: ps, h => by
    simp only [look] at h
    split at h
    · cases h
    · rename_i hne
      have ih := putKey_new k v ps h
      unfold ents at ih
      simp only [ents, List.map_cons, putKey, keyEq, hne, decide_false, ih, Option.bind_some, List.cons_append]
theorem ents_len (m : PM) : (ents m).length = m.length := by simp [ents]
theorem plains_map {α : Type} (f : α → V) (hf : ∀ x, (f x).plain = true) : ∀ l : List α, V.plains (l.map f) = true
  | [] => rfl
  | x :: xs => by simp [V.plains, hf x, plains_map f hf xs]
theorem ents_plain (m : PM) : (Blk.map (ents m)).plain = true := by
  simp only [Blk.plain, ents, List.map_map]
  rw [plains_map _ (fun x => rfl), plains_map _ (fun x => rfl)]; rfl

/-- A map of one's own, and something plain. -/
theorem Abs.map2 {h h1 : H} (hk : Kept h h1) {b : Nat} {x : Blk} (hb : h1.get b = some x) (hn : h.nx ≤ b) (ho : x.own = true) (hp : x.plain = true) {vs : List V} (hvs : V.plains vs = true) :
    Abs h (.tup (.m (some b) :: vs)) h1 (.tup (.m (some h.nx) :: vs)) (h.push x) := by
  intro C B e e' w w' u s hv st
  cases hv with
  | tup _ ws hl =>
    obtain ⟨ws⟩ := ws
    cases hl with
    | cons _ u0 _ us hv hs =>
      cases hv with
      | m _ l h0 => exact ⟨e.add h.nx l, .tup _ _ (.cons _ _ _ _ (.m h.nx l (Emb.add_same _ _ _)) (hs.plain hvs)), st.fresh1 s hk hb hn ho hp h0⟩

def preB (l : List UInt8) : Bool := decide (([58] : List UInt8).length ≤ l.length ∧ l.take ([58] : List UInt8).length = [58])
def teB (f : Fd) : Bool := decide (f.n = [116, 101]) && !decide (f.v = [116, 114, 97, 105, 108, 101, 114, 115])
def psF (m : PM) (reg : Bool) : List Fd → Option PM
  | [] => some m
  | f :: fs =>
    if valueB f.v = false then none
    else if preB f.n = true then (if (look m f.n).isSome || reg then none else psF (m ++ [(f.n, f.v)]) reg fs)
    else if nameB f.n = false then none else if barredB f.n = true then none else if teB f = true then none else psF m true fs
noncomputable def gPseudo (as : List V) (h : H) : Option (V × H) :=
  match as with
  | [.sl p n cap ex] => (readRows Fd.row h 3 p n).bind fun fs => match psF [] false fs with
    | some m => some (.tup [.m (some h.nx), .b true], h.push (.map (ents m)))
    | none => some (.tup [.m none, .b false], h)
  | _ => none

def PsLoop (h : H) (fs : List Fd) (p : Option (Nat × Nat)) (cap : Nat) (ex : Bool) (k : Nat) (t : Tm) (g : H) : Prop :=
  ∃ (i : Nat) (m : PM) (reg : Bool), k = fs.length - i ∧ i ≤ fs.length ∧ t.v 13 = .i .i64 i ∧ t.v 12 = .i .i64 fs.length ∧ t.v 11 = .sl p fs.length cap ex ∧ t.v 4 = .m (some h.nx) ∧ t.v 5 = .b reg ∧
    g.get h.nx = some (.map (ents m)) ∧ Kept h g ∧ h.nx < g.nx ∧ psF m reg (fs.drop i) = psF [] false fs

theorem pseudo_ok {kv kp kn kb : Nat} (hv : pr.ext kv = some gValue) (hp : pr.ext kp = some gPre) (hn : pr.ext kn = some gName) (hb : pr.ext kb = some gBarred) : OkF pr (c_field_pseudo kv kp kn kb) gPseudo := by
  intro as h v h' hg
  unfold gPseudo at hg
  split at hg
  · rename_i p n cap ex
    obtain ⟨fs, hfs, hg2⟩ := Option.bind_eq_some_iff.1 hg
    clear hg
    obtain ⟨⟨hlen, hrows⟩, hn63⟩ := readRows_spec hfs
    rw [List.length_map] at hlen
    subst hlen
    have hcv := @wpCall_ext pr kv _ hv
    have hcp := @wpCall_ext pr kp _ hp
    have hcn := @wpCall_ext pr kn _ hn
    have hcb := @wpCall_ext pr kb _ hb
    unfold wpF c_field_pseudo
    refine ⟨by simp, ?_⟩
    simp only [↓STEP, go_sem, ↓reduceIte, Nat.reduceEqDiff, Nat.reduceLeDiff, Nat.reduceLT, Nat.reduceAdd, Nat.reduceSub, Nat.reduceMul, Int.reduceLT, Int.reduceLE, Int.reduceEq, Int.reduceAdd, Int.reduceSub, Int.reduceMul, Int.reduceNeg, Int.reduceToNat, reduceCtorEq]
    refine wpA_loop_inv (PsLoop h fs p cap ex) ?_ (m := fs.length) ?_
    · rintro k t g ⟨i, m, reg, rfl, hi, e13, e12, e11, e4, e5, hm, hk, hnx, hps⟩
      have n0 : ¬ h.nx = g.nx := by omega
      by_cases hlt : i < fs.length
      · have hlt' : (i : Int) < (fs.length : Int) := by omega
        obtain ⟨bb, r, all, ro, rfl, hbb, hgb, hat⟩ := hrows.resolve_left (by omega)
        have hgb' : g.get bb = some (.rows 3 all ro) := by rw [hk.2 bb hbb]; exact hgb
        have hrw : all[r + i]? = some [.s fs[i].n, .s fs[i].v, .b fs[i].z] := hat i _ (by rw [List.getElem?_map, List.getElem?_eq_getElem hlt]; rfl)
        have hwr : Go.IntKind.wrap .i64 ((i : Int) + 1) = (i : Int) + 1 := wrap_i64 (by omega) (by omega)
        have hd : fs.drop i = fs[i] :: fs.drop (i + 1) := List.drop_eq_getElem_cons hlt
        rw [hd] at hps
        generalize hf : fs[i] = f at hrw hps
        have none_end : psF [] false fs = none → ∀ H1, Kept h H1 → Abs h (.tup [.m none, .b false]) H1 v h' := fun hno H1 hk1 => by
          rw [hno] at hg2; cases hg2
          exact Abs.out rfl rfl hk1
        have xv := gValue_eq f.v
        have xp : ∀ g', gPre [.s f.n, .s [58]] g' = some (.b (preB f.n), g') := fun g' => rfl
        have xn := gName_eq f.n
        have xb := gBarred_eq f.n
        have hfk := findKey_ents f.n m
        have go_on : ∀ m' reg', psF m' reg' (fs.drop (i + 1)) = psF [] false fs → ∀ (t' : Tm) (g' : H), t'.v 13 = .i .i64 ((i : Int) + 1) → t'.v 12 = t.v 12 → t'.v 11 = t.v 11 → t'.v 4 = t.v 4 → t'.v 5 = .b reg' → g'.get h.nx = some (.map (ents m')) → Kept h g' → h.nx < g'.nx →
            ∃ k', k' < fs.length - i ∧ PsLoop h fs (some (bb, r)) cap ex k' t' g' := fun m' reg' hp' t' g' a1 a2 a3 a4 a5 a6 a7 a8 =>
          ⟨_, by omega, i + 1, m', reg', rfl, by omega, by rw [a1]; simp, by rw [a2, e12], by rw [a3, e11], by rw [a4, e4], a5, a6, a7, a8, hp'⟩
        cases b1 : valueB f.v
        · simp only [↓STEP, go_sem, ↓reduceIte, Nat.reduceEqDiff, Nat.reduceLeDiff, Nat.reduceLT, Nat.reduceAdd, Nat.reduceSub, Nat.reduceMul, Int.reduceLT, Int.reduceLE, Int.reduceEq, Int.reduceAdd, Int.reduceSub, Int.reduceMul, Int.reduceNeg, Int.reduceToNat, reduceCtorEq, e13, e12, e11, e4, e5, hgb', hrw, hlt', n0, hcv, xv, b1]
          exact none_end (by rw [← hps, psF, if_pos b1]) _ ((hk.push).set hk.1)
        · cases b2 : preB f.n
          · cases b3 : nameB f.n
            · simp only [↓STEP, go_sem, ↓reduceIte, Nat.reduceEqDiff, Nat.reduceLeDiff, Nat.reduceLT, Nat.reduceAdd, Nat.reduceSub, Nat.reduceMul, Int.reduceLT, Int.reduceLE, Int.reduceEq, Int.reduceAdd, Int.reduceSub, Int.reduceMul, Int.reduceNeg, Int.reduceToNat, reduceCtorEq, e13, e12, e11, e4, e5, hgb', hrw, hlt', n0, hcv, xv, b1, hcp, xp, b2, hcn, xn, b3]
              exact none_end (by rw [← hps]; simp [psF, b1, b2, b3]) _ ((hk.push).set hk.1)
            · cases b4 : barredB f.n
              · by_cases b5 : f.n = [116, 101]
                · have b5' := eq_true b5
                  by_cases b6 : f.v = [116, 114, 97, 105, 108, 101, 114, 115]
                  · have b6' := eq_true b6
                    simp only [↓STEP, go_sem, ↓reduceIte, Nat.reduceEqDiff, Nat.reduceLeDiff, Nat.reduceLT, Nat.reduceAdd, Nat.reduceSub, Nat.reduceMul, Int.reduceLT, Int.reduceLE, Int.reduceEq, Int.reduceAdd, Int.reduceSub, Int.reduceMul, Int.reduceNeg, Int.reduceToNat, reduceCtorEq, e13, e12, e11, e4, e5, hgb', hrw, hlt', n0, hcv, xv, b1, hcp, xp, b2, hcn, xn, b3, hcb, xb, b4, b5', b6', hwr]
                    have te : teB f = false := by simp [teB, b6]
                    exact go_on m true (by rw [← hps]; simp [psF, b1, b2, b3, b4, te]) _ _ (by simp [v_pd, v_pd0]) (by simp [v_pd, v_pd0]) (by simp [v_pd, v_pd0]) (by simp [v_pd, v_pd0]) (by simp [v_pd, v_pd0]) (by simp [H.get_set, H.get_push, n0, hm]) ((hk.push).set hk.1) (by simp only [nx_push, nx_set]; omega)
                  · simp only [↓STEP, go_sem, ↓reduceIte, Nat.reduceEqDiff, Nat.reduceLeDiff, Nat.reduceLT, Nat.reduceAdd, Nat.reduceSub, Nat.reduceMul, Int.reduceLT, Int.reduceLE, Int.reduceEq, Int.reduceAdd, Int.reduceSub, Int.reduceMul, Int.reduceNeg, Int.reduceToNat, reduceCtorEq, e13, e12, e11, e4, e5, hgb', hrw, hlt', n0, hcv, xv, b1, hcp, xp, b2, hcn, xn, b3, hcb, xb, b4, b5', b6, hwr]
                    have te : teB f = true := by simp [teB, b5, b6]
                    exact none_end (by rw [← hps]; simp [psF, b1, b2, b3, b4, te]) _ ((hk.push).set hk.1)
                · simp only [↓STEP, go_sem, ↓reduceIte, Nat.reduceEqDiff, Nat.reduceLeDiff, Nat.reduceLT, Nat.reduceAdd, Nat.reduceSub, Nat.reduceMul, Int.reduceLT, Int.reduceLE, Int.reduceEq, Int.reduceAdd, Int.reduceSub, Int.reduceMul, Int.reduceNeg, Int.reduceToNat, reduceCtorEq, e13, e12, e11, e4, e5, hgb', hrw, hlt', n0, hcv, xv, b1, hcp, xp, b2, hcn, xn, b3, hcb, xb, b4, b5, hwr]
                  have te : teB f = false := by simp [teB, b5]
                  exact go_on m true (by rw [← hps]; simp [psF, b1, b2, b3, b4, te]) _ _ (by simp [v_pd, v_pd0]) (by simp [v_pd, v_pd0]) (by simp [v_pd, v_pd0]) (by simp [v_pd, v_pd0]) (by simp [v_pd, v_pd0]) (by simp [H.get_set, H.get_push, n0, hm]) ((hk.push).set hk.1) (by simp only [nx_push, nx_set]; omega)
              · simp only [↓STEP, go_sem, ↓reduceIte, Nat.reduceEqDiff, Nat.reduceLeDiff, Nat.reduceLT, Nat.reduceAdd, Nat.reduceSub, Nat.reduceMul, Int.reduceLT, Int.reduceLE, Int.reduceEq, Int.reduceAdd, Int.reduceSub, Int.reduceMul, Int.reduceNeg, Int.reduceToNat, reduceCtorEq, e13, e12, e11, e4, e5, hgb', hrw, hlt', n0, hcv, xv, b1, hcp, xp, b2, hcn, xn, b3, hcb, xb, b4]
                exact none_end (by rw [← hps]; simp [psF, b1, b2, b3, b4]) _ ((hk.push).set hk.1)
          · cases b3 : look m f.n with
            | some w =>
              rw [b3] at hfk
              simp only [↓STEP, go_sem, ↓reduceIte, Nat.reduceEqDiff, Nat.reduceLeDiff, Nat.reduceLT, Nat.reduceAdd, Nat.reduceSub, Nat.reduceMul, Int.reduceLT, Int.reduceLE, Int.reduceEq, Int.reduceAdd, Int.reduceSub, Int.reduceMul, Int.reduceNeg, Int.reduceToNat, reduceCtorEq, e13, e12, e11, e4, e5, hgb', hrw, hlt', n0, hcv, xv, b1, hcp, xp, b2, hm, hfk]
              exact none_end (by rw [← hps]; simp [psF, b1, b2, b3]) _ ((hk.push).set hk.1)
            | none =>
              rw [b3] at hfk
              have hput := putKey_new f.n f.v m b3
              cases reg
              · simp only [↓STEP, go_sem, ↓reduceIte, Nat.reduceEqDiff, Nat.reduceLeDiff, Nat.reduceLT, Nat.reduceAdd, Nat.reduceSub, Nat.reduceMul, Int.reduceLT, Int.reduceLE, Int.reduceEq, Int.reduceAdd, Int.reduceSub, Int.reduceMul, Int.reduceNeg, Int.reduceToNat, reduceCtorEq, e13, e12, e11, e4, e5, hgb', hrw, hlt', n0, hcv, xv, b1, hcp, xp, b2, hm, hfk, hput, hwr]
                exact go_on (m ++ [(f.n, f.v)]) false (by rw [← hps]; simp [psF, b1, b2, b3]) _ _ (by simp [v_pd, v_pd0]) (by simp [v_pd, v_pd0]) (by simp [v_pd, v_pd0]) (by simp [v_pd, v_pd0]) (by simp [v_pd, v_pd0, e5]) (by simp [H.get_set]) (((hk.push).set hk.1).set (Nat.le_refl _)) (by simp only [nx_push, nx_set]; omega)
              · simp only [↓STEP, go_sem, ↓reduceIte, Nat.reduceEqDiff, Nat.reduceLeDiff, Nat.reduceLT, Nat.reduceAdd, Nat.reduceSub, Nat.reduceMul, Int.reduceLT, Int.reduceLE, Int.reduceEq, Int.reduceAdd, Int.reduceSub, Int.reduceMul, Int.reduceNeg, Int.reduceToNat, reduceCtorEq, e13, e12, e11, e4, e5, hgb', hrw, hlt', n0, hcv, xv, b1, hcp, xp, b2, hm, hfk, hput, hwr]
                exact none_end (by rw [← hps]; simp [psF, b1, b2]) _ ((hk.push).set hk.1)
      · have hlt' : ¬ (i : Int) < (fs.length : Int) := by omega
        have : i = fs.length := by omega
        rw [this, List.drop_length, psF] at hps
        rw [← hps] at hg2
        simp only [↓STEP, go_sem, ↓reduceIte, Nat.reduceEqDiff, Nat.reduceLeDiff, Nat.reduceLT, Nat.reduceAdd, Nat.reduceSub, Nat.reduceMul, Int.reduceLT, Int.reduceLE, Int.reduceEq, Int.reduceAdd, Int.reduceSub, Int.reduceMul, Int.reduceNeg, Int.reduceToNat, reduceCtorEq, e13, e12, e11, e4, e5, hlt']
        cases hg2
        exact Abs.map2 hk hm (Nat.le_refl _) rfl (ents_plain m) rfl
    · refine ⟨0, [], false, rfl, Nat.zero_le _, ?_, ?_, ?_, ?_, ?_, ?_, ?_, ?_, rfl⟩
      all_goals (try simp only [↓STEP, go_sem, ↓reduceIte, Nat.reduceEqDiff, Nat.reduceLeDiff, Nat.reduceLT, Nat.reduceAdd, Nat.reduceSub, Nat.reduceMul, Int.reduceLT, Int.reduceLE, Int.reduceEq, Int.reduceAdd, Int.reduceSub, Int.reduceMul, Int.reduceNeg, Int.reduceToNat, reduceCtorEq]; try rfl)
      · (repeat (first | exact Kept.refl | apply Kept.push | refine Kept.kill ?_ (by omega) | refine Kept.set ?_ (by omega)))
      · omega
  · cases hg
end Am
