/- What the functions of the layer 'conf' answer: all settings that come; the same settings. -/
import Derived.Test.YtdnigcfofodjhaaConf2
namespace Am
set_option linter.unusedVariables false
set_option linter.unusedSimpArgs false
set_option maxRecDepth 10000
variable {pr : Prog}

def applyAll (role : Int) (c0 : Cf) : Cf → List (Int × Int) → Cf × Int
  | now, [] => (now, 0)
  | now, p :: ps => if (apply1 role now p.1 p.2).2 = 0 then applyAll role c0 (apply1 role now p.1 p.2).1 ps else (c0, (apply1 role now p.1 p.2).2)
def pairRow (p : Int × Int) : List V := [.i .i64 p.1, .i .i64 p.2]
/-- A slice's rows, as a heap has them, elder than all that will be made. -/
def rowsAt (h : H) (k : Nat) (a : Option (Nat × Nat)) (n : Nat) (rs : List (List V)) : Prop :=
  rs.length = n ∧ (n = 0 ∨ ∃ b r all ro, a = some (b, r) ∧ b < h.nx ∧ h.get b = some (.rows k all ro) ∧ ∀ i row, rs[i]? = some row → all[r + i]? = some row)
open Classical in
noncomputable def gApply (as : List V) (h : H) : Option (V × H) :=
  match as with
  | [.i .i64 role, .agg [.i .i64 a, .i .i64 b, .i .i64 c, .i .i64 d, .i .i64 e], .sl p n cap ex] =>
    if hx : ∃ ps : List (Int × Int), rowsAt h 2 p n (ps.map pairRow) ∧ n < 9223372036854775807 then
      some (.tup [.agg (applyAll role ⟨a, b, c, d, e⟩ ⟨a, b, c, d, e⟩ hx.choose).1.row, .i .i64 (applyAll role ⟨a, b, c, d, e⟩ ⟨a, b, c, d, e⟩ hx.choose).2], h)
    else none
  | _ => none
def ApplyLoop (h : H) (role : Int) (c : Cf) (ps : List (Int × Int)) (p : Option (Nat × Nat)) (cap : Nat) (ex : Bool) (m : Nat) (t : Tm) (g : H) : Prop :=
  ∃ (i : Nat) (now : Cf), m = ps.length - i ∧ i ≤ ps.length ∧ t.v 15 = .i .i64 i ∧ t.v 14 = .i .i64 ps.length ∧ t.v 13 = .sl p ps.length cap ex ∧ t.v 0 = .i .i64 role ∧
    t.v 4 = .p (some (h.nx, 0, 0)) ∧ t.v 6 = .p (some (h.nx + 1, 0, 0)) ∧ t.v 8 = .p (some (h.nx + 2, 0, 0)) ∧
    g.get h.nx = some (.rows 5 [c.row] false) ∧ g.get (h.nx + 1) = some (.rows 5 [[.i .i64 0, .i .i64 0, .i .i64 0, .i .i64 0, .i .i64 0]] false) ∧ g.get (h.nx + 2) = some (.rows 5 [now.row] false) ∧ Kept h g ∧ h.nx + 2 < g.nx ∧
    applyAll role c now (ps.drop i) = applyAll role c c ps
theorem row_eq (c : Cf) : c.row = [.i .i64 c.a, .i .i64 c.b, .i .i64 c.c, .i .i64 c.d, .i .i64 c.e] := rfl
theorem gApply1_eq {role id v : Int} {p : Nat} {c : Cf} {h : H} (hp : h.get p = some (.rows 5 [[.i .i64 c.a, .i .i64 c.b, .i .i64 c.c, .i .i64 c.d, .i .i64 c.e]] false)) (hlt : p < h.nx) : gApply1 [.i .i64 role, .p (some (p, 0, 0)), .agg [.i .i64 id, .i .i64 v]] h =
    some (.i .i64 (apply1 role c id v).2, h.set p (.rows 5 [(apply1 role c id v).1.row] false)) := by
  simp only [gApply1, hp]; rw [if_pos hlt]

theorem apply_ok {k : Nat} (hw : pr.ext k = some gApply1) : OkFor pr (c_conf_Apply k) gApply := by
  intro as h v h' hg
  unfold gApply at hg
  split at hg
  · rename_i role a b c d e p n cap ex
    split at hg
    · rename_i hx
      have hps := hx.choose_spec
      generalize hx.choose = ps at hg hps
      cases hg
      obtain ⟨⟨hlen, hrows⟩, hn⟩ := hps
      rw [List.length_map] at hlen
      subst hlen
      generalize hcf : (⟨a, b, c, d, e⟩ : Cf) = cf
      have hrow : cf.row = [.i .i64 a, .i .i64 b, .i .i64 c, .i .i64 d, .i .i64 e] := by subst hcf; rfl
      have hc := @wpCall_ext pr k gApply1 hw
      unfold wpF c_conf_Apply
      refine ⟨by simp, ?_⟩
      simp only [↓STEP, go_sem, ↓reduceIte, Nat.reduceEqDiff, Nat.reduceLeDiff, Nat.reduceLT, Nat.reduceAdd, Nat.reduceSub, Nat.reduceMul, Int.reduceLT, Int.reduceLE, Int.reduceEq, Int.reduceAdd, Int.reduceSub, Int.reduceMul, Int.reduceNeg, Int.reduceToNat, reduceCtorEq]
      refine wpA_loop_inv (ApplyLoop h role cf ps p cap ex) ?_ (m := ps.length) ?_
      · rintro m t g ⟨i, now, rfl, hi, e15, e14, e13, e0, e4, e6, e8, g0, g1, g2, hk, hnx, hap⟩
        by_cases hlt : i < ps.length
        · have hlt' : (i : Int) < (ps.length : Int) := by omega
          obtain ⟨bb, r, all, ro, rfl, hb, hgb, hat⟩ := hrows.resolve_left (by omega)
          have hgb' : g.get bb = some (.rows 2 all ro) := by rw [hk.2 bb hb]; exact hgb
          have hrw : all[r + i]? = some [.i .i64 ps[i].1, .i .i64 ps[i].2] := hat i _ (by rw [List.getElem?_map, List.getElem?_eq_getElem hlt]; rfl)
          have hw : Go.IntKind.wrap .i64 ((i : Int) + 1) = (i : Int) + 1 := wrap_i64 (by omega) (by omega)
          have n0 : ¬ h.nx = g.nx := by omega
          have n1 : ¬ h.nx + 1 = g.nx := by omega
          have n2 : ¬ h.nx + 2 = g.nx := by omega
          have hlt2 : h.nx + 2 < g.nx + 1 := by omega
          have hcall : ∀ X Y, gApply1 [.i .i64 role, .p (some (h.nx + 2, 0, 0)), .agg [.i .i64 ps[i].1, .i .i64 ps[i].2]] ((g.push X).set g.nx Y) = some (.i .i64 (apply1 role now ps[i].1 ps[i].2).2, ((g.push X).set g.nx Y).set (h.nx + 2) (.rows 5 [(apply1 role now ps[i].1 ps[i].2).1.row] false)) := fun X Y =>
            gApply1_eq (by rw [H.get_set, if_neg n2, H.get_push, if_neg n2]; exact g2) (by show h.nx + 2 < g.nx + 1; omega)
          generalize happ : apply1 role now ps[i].1 ps[i].2 = ans at hcall
          have hd : ps.drop i = ps[i] :: ps.drop (i + 1) := List.drop_eq_getElem_cons hlt
          rw [hd] at hap
          simp only [↓STEP, go_sem, ↓reduceIte, Nat.reduceEqDiff, Nat.reduceLeDiff, Nat.reduceLT, Nat.reduceAdd, Nat.reduceSub, Nat.reduceMul, Int.reduceLT, Int.reduceLE, Int.reduceEq, Int.reduceAdd, Int.reduceSub, Int.reduceMul, Int.reduceNeg, Int.reduceToNat, reduceCtorEq, hc, e15, e14, e13, e0, e4, e6, e8, g0, g1, g2, hgb', hrw, hlt', hcall, n0, n1, n2, hlt2, row_eq]
          by_cases hz : ans.2 = 0
          · simp only [↓STEP, go_sem, ↓reduceIte, Nat.reduceEqDiff, Nat.reduceLeDiff, Nat.reduceLT, Nat.reduceAdd, Nat.reduceSub, Nat.reduceMul, Int.reduceLT, Int.reduceLE, Int.reduceEq, Int.reduceAdd, Int.reduceSub, Int.reduceMul, Int.reduceNeg, Int.reduceToNat, reduceCtorEq, hz, hw, e15]
            refine ⟨_, by omega, i + 1, ans.1, rfl, by omega, by simp [v_pd, v_pd0], by simp [v_pd, v_pd0, e14], by simp [v_pd, v_pd0, e13], by simp [v_pd, v_pd0, e0], by simp [v_pd, v_pd0, e4], by simp [v_pd, v_pd0, e6], by simp [v_pd, v_pd0, e8], ?_, ?_, ?_, ?_, ?_, ?_⟩
            · simp [H.get_set, H.get_push, n0, g0]
            · simp [H.get_set, H.get_push, n1, g1]
            · simp [H.get_set, row_eq]
            · exact ((hk.push).set (by omega)).set (by omega)
            · show h.nx + 2 < g.nx + 1; omega
            · rw [← hap, applyAll, happ, if_pos hz]
          · simp only [↓STEP, go_sem, ↓reduceIte, Nat.reduceEqDiff, Nat.reduceLeDiff, Nat.reduceLT, Nat.reduceAdd, Nat.reduceSub, Nat.reduceMul, Int.reduceLT, Int.reduceLE, Int.reduceEq, Int.reduceAdd, Int.reduceSub, Int.reduceMul, Int.reduceNeg, Int.reduceToNat, reduceCtorEq, hz, hw, e4, e6, n0, n1, g0, g1, row_eq]
            have hap' : applyAll role cf cf ps = (cf, ans.2) := by rw [← hap, applyAll, happ, if_neg hz]
            rw [hap']
            exact Abs.out rfl rfl ((((hk.push).set (by omega)).set (by omega)).set (by omega))
        · have hlt' : ¬ (i : Int) < (ps.length : Int) := by omega
          have hi' : i = ps.length := by omega
          rw [hi', List.drop_length] at hap
          simp only [↓STEP, go_sem, ↓reduceIte, Nat.reduceEqDiff, Nat.reduceLeDiff, Nat.reduceLT, Nat.reduceAdd, Nat.reduceSub, Nat.reduceMul, Int.reduceLT, Int.reduceLE, Int.reduceEq, Int.reduceAdd, Int.reduceSub, Int.reduceMul, Int.reduceNeg, Int.reduceToNat, reduceCtorEq, e15, e14, e13, e0, e4, e6, e8, g0, g1, g2, hlt', row_eq]
          rw [← hap]
          exact Abs.out rfl rfl (hk.set (by omega))
      · refine ⟨0, cf, rfl, Nat.zero_le _, ?_, ?_, ?_, ?_, ?_, ?_, ?_, ?_, ?_, ?_, ?_, ?_, rfl⟩
        all_goals (try simp only [↓STEP, go_sem, ↓reduceIte, Nat.reduceEqDiff, Nat.reduceLeDiff, Nat.reduceLT, Nat.reduceAdd, Nat.reduceSub, Nat.reduceMul, Int.reduceLT, Int.reduceLE, Int.reduceEq, Int.reduceAdd, Int.reduceSub, Int.reduceMul, Int.reduceNeg, Int.reduceToNat, reduceCtorEq, hrow]; try rfl)
        · (repeat (first | exact Kept.refl | apply Kept.push | refine Kept.kill ?_ (by omega) | refine Kept.set ?_ (by omega)))
        · omega
    · cases hg
  · cases hg
end Am
