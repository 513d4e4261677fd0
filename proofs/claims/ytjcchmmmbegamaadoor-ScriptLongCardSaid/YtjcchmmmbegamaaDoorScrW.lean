/- The program's Write: what it answers, over the library's builder by its contracts and over Line by the machine's rule. -/
import Derived.Test.YtjcchmmmbegamaaDoorScrShelf
import Derived.Test.YtjcchmmmbegamaaDoorScrX
import Derived.WalkKit
import Derived.BigCall
set_option linter.unusedVariables false
set_option linter.unusedSimpArgs false
namespace Go.Proofs.YtjcchmmmbegamaaDoor.ScrW
open Go.Shelf Go.RowKit Am Go.Proofs

theorem bLen (B b : Nat) (bs : List Value) (w : World) (h : Lib.IsBuilder 65 5 B b bs w) : Calls Tryd.prog 30 #[.pointer (some ⟨b, 0, none⟩)] w fun e w' => e = .returned (.int .i64 bs.length) ∧ w' = w := Any.Builder_Len Tryd.lays170 B b bs w h
theorem bWrite (B b : Nat) (bs : List Value) (s : ByteArray) (w : World) (h : Lib.IsBuilder 65 5 B b bs w) (hlen : bs.length + s.size ≤ 140737488355328) (hBw : B ≤ w.heap.size) :
    Calls Tryd.prog 31 #[.pointer (some ⟨b, 0, none⟩), .string s] w fun e w' => e = .returned (.tuple #[.int .i64 s.size, .nilIface]) ∧ (Lib.BuilderAt 65 5 B b (.pointer (some ⟨b, 0, none⟩)) (bs ++ Lib.strCells s) w' ∧ Below B w w') := Any.Builder_WriteString { Tryd.lays156 with } Tryd.Builder_Extra_156 B b bs s w h hlen hBw
theorem bString (B b : Nat) (l : List UInt8) (w : World) (h : Lib.IsBuilder 65 5 B b (Lib.byteCells l) w) (hBw : B ≤ w.heap.size) :
    Calls Tryd.prog 32 #[.pointer (some ⟨b, 0, none⟩)] w fun e w' => e = .returned (.string ⟨l.toArray⟩) ∧ Below B w w' := Any.Builder_String_any { Tryd.lays156 with } Tryd.Builder_Extra_156 B b l w h hBw

theorem lt_of_some {w : World} {c : Nat} {o : Obj} (h : w.heap[c]? = some o) : c < w.heap.size := by
  rcases Nat.lt_or_ge c w.heap.size with h1 | h1
  · exact h1
  · rw [Array.getElem?_eq_none h1] at h; cases h
theorem keepAt {b : Nat} {p : Value} {bs : List Value} {w w' : World} (h : Lib.BuilderAt 65 5 b b p bs w) (hk : ∀ c, b ≤ c → c < w.heap.size → w'.heap[c]? = w.heap[c]?) : Lib.BuilderAt 65 5 b b p bs w' := by
  obtain ⟨hB, v, hb, ⟨hl, hv⟩, hne⟩ := h
  refine ⟨hB, v, (hk b hB (lt_of_some hb)).trans hb, ⟨hl, ?_⟩, hne⟩
  rcases hv with hv | ⟨g, cap, cur, h1, h2, h3, h4⟩
  · exact .inl hv
  · exact .inr ⟨g, cap, cur, h1, h2, (hk g h2 (lt_of_some h3)).trans h3, h4⟩
theorem keepB {b : Nat} {bs : List Value} {w w' : World} (h : Lib.IsBuilder 65 5 b b bs w) (hk : ∀ c, b ≤ c → c < w.heap.size → w'.heap[c]? = w.heap[c]?) : Lib.IsBuilder 65 5 b b bs w' := by
  rcases h with h | h
  · exact .inl (keepAt h hk)
  · exact .inr (keepAt h hk)
theorem nextB {b : Nat} {acc l : List UInt8} {t : ByteArray} {w : World} (h : Lib.BuilderAt 65 5 b b (.pointer (some ⟨b, 0, none⟩)) (Lib.byteCells acc ++ Lib.strCells t) w) (ht : t.data.toList = l) : Lib.IsBuilder 65 5 b b (Lib.byteCells (acc ++ l)) w := by
  subst ht
  rw [Lib.byteCells_append]
  exact .inr h
theorem castL {a b : Nat} (h : (a : Int) + (b : Int) ≤ 1048576) : ¬ 1048576 < a + b := by omega
theorem castG {a b : Nat} (h : 1048576 < (a : Int) + (b : Int)) : 1048576 < a + b := by omega
theorem appL {acc l : List UInt8} {t : ByteArray} (ht : t.data.toList = l) (h : ¬ 1048576 < acc.length + t.size) : (acc ++ l).length ≤ 1048576 := by
  subst ht
  have := Lib.size_eq t
  rw [List.length_append]; omega
theorem sizeE {t : ByteArray} {l : List UInt8} (h : t.data.toList = l) : l.length = t.size := by rw [← h]; exact (Lib.size_eq t).symm
theorem err0 {er e1 : Int} (h : e1 = 0) : errF er e1 = er := by unfold errF; rw [if_neg]; rintro ⟨h1, _⟩; exact h1 h
theorem err1 {er e1 : Int} (h : ¬ e1 = 0) (h2 : er = 0) : errF er e1 = e1 := by unfold errF; rw [if_pos ⟨h, h2⟩]
theorem err2 {er e1 : Int} (h2 : ¬ er = 0) : errF er e1 = er := by unfold errF; rw [if_neg]; rintro ⟨_, h1⟩; exact h2 h1
theorem err1' {er e1 : Int} (h : (e1 != 0) = true ∧ (er == 0) = true) : errF er e1 = e1 := err1 (by simpa using h.1) (by simpa using h.2)
theorem err2' {er e1 : Int} (h1 : ¬ e1 = 0) (h : (e1 != 0) = false ∨ (er == 0) = false) : errF er e1 = er := err2 (by simpa [h1] using h)
theorem measL {k n : Nat} (h : k < n) : n - ((k : Int) + 1).toNat < n - (k : Int).toNat := by omega
theorem longV {e : Emb} {ss : List Sp} (h : wrF ss [] 0 = none) : VR e (writeV ss) (.tuple #[.string { data := #[] }, .int .i64 2]) := by
  have : writeV ss = .tup [.s [], .i .i64 2] := by unfold writeV; rw [h]; split <;> rfl
  rw [this]
  exact .tup _ _ (.cons _ _ _ _ (.s { data := #[] }) (.cons _ _ _ _ (.i _ _) .nil))
theorem goodV {e : Emb} {ss : List Sp} {acc : List UInt8} {n : Nat} (hl : ss.length = n) (hn : n ≤ 4096) (h : wrF ss [] 0 = some (acc, 0)) : VR e (writeV ss) (.tuple #[.string { data := acc.toArray }, .int .i64 0]) := by
  have : writeV ss = .tup [.s acc, .i .i64 0] := by unfold writeV; rw [h, if_neg (by omega)]; rfl
  rw [this]
  exact .tup _ _ (.cons _ _ _ _ (.s { data := acc.toArray }) (.cons _ _ _ _ (.i _ _) .nil))
theorem badV' {e : Emb} {ss : List Sp} {acc : List UInt8} {er : Int} {n : Nat} (hl : ss.length = n) (hn : n ≤ 4096) (h : wrF ss [] 0 = some (acc, er)) (he : ¬ er = 0) : VR e (writeV ss) (.tuple #[.string { data := #[] }, .int .i64 er]) := by
  have : writeV ss = .tup [.s [], .i .i64 er] := by unfold writeV; rw [h, if_neg (by omega)]; simp only; rw [if_neg he]
  rw [this]
  exact .tup _ _ (.cons _ _ _ _ (.s { data := #[] }) (.cons _ _ _ _ (.i _ _) .nil))
theorem limL {acc : List UInt8} {t : ByteArray} (ha : acc.length ≤ 1048576) (hb : t.size ≤ 60000000) : (Lib.byteCells acc).length + t.size ≤ 140737488355328 := by rw [Lib.byteCells_length]; omega
theorem sizeL {t : ByteArray} {l : List UInt8} {n : Nat} (h : t.data.toList = l) (hl : l.length ≤ n) : t.size ≤ n := by rw [← h] at hl; exact (Lib.size_eq t) ▸ hl
theorem leL {a b c : Nat} (h1 : a ≤ b) (h2 : b + 1 ≤ c) : a ≤ c := by omega
set_option maxHeartbeats 6400000 in
set_option maxRecDepth 100000 in
theorem write_walk {e : Emb} {h : H} {B : Nat} {w : World} {Z : H → Int → Bool} (hZ : Zok Z) (hx : ExtFor Tryd.prog 9 (gLineS Z)) (s : Sim (CC Tryd.prog) B e h w) {p : Option (Nat × Nat)} {n c : Nat} {ex : Bool} {sv : Value} (hv : VR e (.sl p n c ex) sv) {ss : List Sp} (hr : stepsIn h p n ss) (hok : ∀ x ∈ ss, SpOk Z h x) (hn : n ≤ 4096) :
    Calls Tryd.prog 11 #[sv] w fun E w' => ∃ u, E = .returned u ∧ ∃ e', VR e' (writeV ss) u ∧ Stp (CC Tryd.prog) B e h w e' h w' := by
  obtain ⟨sa, sc, rfl⟩ : ∃ sa sc, sv = .slice sa n sc := by
    cases hv with
    | sl0 => exact ⟨_, _, rfl⟩
    | sl => exact ⟨_, _, rfl⟩
  have hn' : ((n : Nat) : Int) ≤ 4096 := by omega
  have hent9 : ∀ args w, (Go.callFunc 9 args).run Tryd.prog w = .ok (.enter 9 args) w := fun args w => Go.Proofs.enters_of Tryd.func9 (by kernel_rfl) rfl args w
  obtain ⟨hln, hrow⟩ := hr
  go_enter Tryd.func11, Tryd.ntmps11
  go_wp2
  go_loopw [5, 15] (fun nov iv wr => ∃ (k : Nat) (acc : List UInt8) (er : Int), k ≤ n ∧ iv = .int .i64 k ∧ nov = .int .i64 er ∧ wrF (ss.drop k) acc er = wrF ss [] 0 ∧ acc.length ≤ 1048576 ∧ Lib.IsBuilder 65 5 w.heap.size w.heap.size (Lib.byteCells acc) wr ∧ Stp (CC Tryd.prog) B e h w e h wr)
    (fun _ iv _ => match iv with | .int _ i => n - i.toNat | _ => 0)
  case atStart =>
    exact ⟨0, [], 0, Nat.zero_le _, rfl, rfl, rfl, Nat.zero_le _, Lib.fresh_isBuilder 65 5 w, Stp.more s (fun c hc => alloc_heap w _ c hc) (by show w.heap.size ≤ (w.heap.push _).size; rw [Array.size_push]; exact Nat.le_succ _)⟩
  case round =>
    obtain ⟨k, acc, er, hk, rfl, rfl, hW, hacc, hI, st⟩ := hrel
    by_cases hlt : k < n
    · have hlt' : ((k : Nat) : Int) < ((n : Nat) : Int) := by omega
      obtain ⟨b, r, all, ro, rfl, hbn, hg, hat⟩ := hrow.resolve_left (by omega)
      have hks : k < ss.length := by omega
      obtain ⟨row, h1, hsp⟩ := hat k ss[k] (List.getElem?_eq_getElem hks)
      have hrl : row.length = 12 := by obtain ⟨_, _, _, _, _, _, _, _, hre, _, _⟩ := id hsp; rw [hre]; rfl
      obtain ⟨Ab, Ao, us, hul, hus, q1, qc⟩ := elem_cells (P := Tryd.prog) (tS := 28) (tR := 27) Tryd.underlying28 (by kernel_rfl) st.sim hv hg hlt h1 hrl
      obtain ⟨u0, u1, u2, u3, u4, u5, u6, u7, u8, u9, u10, u11, rfl⟩ : ∃ u0 u1 u2 u3 u4 u5 u6 u7 u8 u9 u10 u11, us = [u0, u1, u2, u3, u4, u5, u6, u7, u8, u9, u10, u11] := by
        match us, hul with
        | [u0, u1, u2, u3, u4, u5, u6, u7, u8, u9, u10, u11], _ => exact ⟨_, _, _, _, _, _, _, _, _, _, _, _, rfl⟩
      have k0 := (qc 0 _ rfl).1
      have s0 : ∀ a W m, (Go.store a u0 m).run Tryd.prog W = _ := fun a W m => run_store Tryd.prog W a u0 m (qc 0 _ rfl).2
      have k1 := (qc 1 _ rfl).1
      have s1 : ∀ a W m, (Go.store a u1 m).run Tryd.prog W = _ := fun a W m => run_store Tryd.prog W a u1 m (qc 1 _ rfl).2
      have k2 := (qc 2 _ rfl).1
      have s2 : ∀ a W m, (Go.store a u2 m).run Tryd.prog W = _ := fun a W m => run_store Tryd.prog W a u2 m (qc 2 _ rfl).2
      have k3 := (qc 3 _ rfl).1
      have s3 : ∀ a W m, (Go.store a u3 m).run Tryd.prog W = _ := fun a W m => run_store Tryd.prog W a u3 m (qc 3 _ rfl).2
      have k4 := (qc 4 _ rfl).1
      have s4 : ∀ a W m, (Go.store a u4 m).run Tryd.prog W = _ := fun a W m => run_store Tryd.prog W a u4 m (qc 4 _ rfl).2
      have k5 := (qc 5 _ rfl).1
      have s5 : ∀ a W m, (Go.store a u5 m).run Tryd.prog W = _ := fun a W m => run_store Tryd.prog W a u5 m (qc 5 _ rfl).2
      have k6 := (qc 6 _ rfl).1
      have s6 : ∀ a W m, (Go.store a u6 m).run Tryd.prog W = _ := fun a W m => run_store Tryd.prog W a u6 m (qc 6 _ rfl).2
      have k7 := (qc 7 _ rfl).1
      have s7 : ∀ a W m, (Go.store a u7 m).run Tryd.prog W = _ := fun a W m => run_store Tryd.prog W a u7 m (qc 7 _ rfl).2
      have k8 := (qc 8 _ rfl).1
      have s8 : ∀ a W m, (Go.store a u8 m).run Tryd.prog W = _ := fun a W m => run_store Tryd.prog W a u8 m (qc 8 _ rfl).2
      have k9 := (qc 9 _ rfl).1
      have s9 : ∀ a W m, (Go.store a u9 m).run Tryd.prog W = _ := fun a W m => run_store Tryd.prog W a u9 m (qc 9 _ rfl).2
      have k10 := (qc 10 _ rfl).1
      have s10 : ∀ a W m, (Go.store a u10 m).run Tryd.prog W = _ := fun a W m => run_store Tryd.prog W a u10 m (qc 10 _ rfl).2
      have k11 := (qc 11 _ rfl).1
      have s11 : ∀ a W m, (Go.store a u11 m).run Tryd.prog W = _ := fun a W m => run_store Tryd.prog W a u11 m (qc 11 _ rfl).2
      rw [Nat.add_zero] at k0
      have hgw := st.grow
      have s1 : Sim (CC Tryd.prog) B e h (wr.alloc (Obj.cells #[u0, u1, u2, u3, u4, u5, u6, u7, u8, u9, u10, u11] 27)) := (Stp.more st.sim (fun c hc => alloc_heap wr _ c hc) (by show wr.heap.size ≤ (wr.heap.push _).size; rw [Array.size_push]; omega)).sim
      have hW1 : (wr.alloc (Obj.cells #[u0, u1, u2, u3, u4, u5, u6, u7, u8, u9, u10, u11] 27)).heap.size = wr.heap.size + 1 := Array.size_push _
      have hW2 : ∀ c, c < wr.heap.size → (wr.alloc (Obj.cells #[u0, u1, u2, u3, u4, u5, u6, u7, u8, u9, u10, u11] 27)).heap[c]? = wr.heap[c]? := fun c hc => alloc_heap wr _ c hc
      have stW : Stp (CC Tryd.prog) B e h wr e h (wr.alloc (Obj.cells #[u0, u1, u2, u3, u4, u5, u6, u7, u8, u9, u10, u11] 27)) := Stp.more st.sim hW2 (by rw [hW1]; exact Nat.le_succ _)
      have hcall := line_calls hx hent9 s1 (us := #[u0, u1, u2, u3, u4, u5, u6, u7, u8, u9, u10, u11]) hus hsp (hok _ (List.getElem_mem hks))
      have hown : ∀ c, w.heap.size ≤ c → ¬ Owns e h c := fun c hc ho => by have := owns_lt s ho; omega
      have hll := lineE_len (hok _ (List.getElem_mem hks))
      have hshort : ∀ m : Nat, (lineE ss[k]).1.length = m → ¬ 1048576 < acc.length + m → ∀ er2, errF er (lineE ss[k]).2 = er2 → wrF (ss.drop (k + 1)) (acc ++ (lineE ss[k]).1) er2 = wrF ss [] 0 := by
        rintro m rfl hm _ rfl
        rw [← hW, List.drop_eq_getElem_cons hks, wrF, if_neg hm]
      have hlong : ∀ m : Nat, (lineE ss[k]).1.length = m → 1048576 < acc.length + m → wrF ss [] 0 = none := by
        rintro m rfl hm
        rw [← hW, List.drop_eq_getElem_cons hks, wrF, if_pos hm]
      clear hW
      generalize ss[k] = sp at *
      have hbc : ∀ l : List UInt8, (Lib.byteCells l).length = l.length := fun l => Lib.byteCells_length l
      go_wp2_with (first
        | (go_at_call 9; refine hcall.mono ?_; rintro E w3 ⟨t, rfl, ht, st3⟩
           have hI3 : Lib.IsBuilder 65 5 w.heap.size w.heap.size (Lib.byteCells acc) w3 := keepB hI (fun c h5 h6 => (st3.keep c (by rw [hW1]; exact Nat.lt_succ_of_lt h6) (hown c h5)).trans (hW2 c h6))
           have htl : t.size ≤ 60000000 := sizeL ht hll
           have hg3 : wr.heap.size + 1 ≤ w3.heap.size := by have := st3.grow; rw [hW1] at this; exact this)
        | (go_at_call 30; refine (bLen _ _ _ _ hI3).mono ?_; rintro E w4 ⟨rfl, rfl⟩)
        | (go_at_call 31; refine (bWrite _ _ _ t _ hI3 (limL hacc htl) (leL hgw hg3)).mono ?_; rintro E w5 ⟨rfl, hB5, hb5⟩))
      · go_ret2; exact ⟨_, rfl, e, longV (hlong _ (sizeE ht) (castG ‹_›)), (st.trans stW).trans st3⟩
      · have hq := castL (a := acc.length) (b := t.size) ‹_›; exact ⟨⟨k + 1, _, er, hlt, rfl, rfl, hshort _ (sizeE ht) hq _ (err0 ‹(lineE sp).2 = 0›), appL ht hq, nextB hB5 ht, Stp.under ((st.trans stW).trans st3) s hb5.block hb5.size ⟨hb5.os, hb5.tape, hb5.output⟩⟩, measL hlt⟩
      · go_ret2; exact ⟨_, rfl, e, longV (hlong _ (sizeE ht) (castG ‹_›)), (st.trans stW).trans st3⟩
      · have hq := castL (a := acc.length) (b := t.size) ‹_›; exact ⟨⟨k + 1, _, _, hlt, rfl, rfl, hshort _ (sizeE ht) hq _ (err1' ‹_›), appL ht hq, nextB hB5 ht, Stp.under ((st.trans stW).trans st3) s hb5.block hb5.size ⟨hb5.os, hb5.tape, hb5.output⟩⟩, measL hlt⟩
      · go_ret2; exact ⟨_, rfl, e, longV (hlong _ (sizeE ht) (castG ‹_›)), (st.trans stW).trans st3⟩
      · have hq := castL (a := acc.length) (b := t.size) ‹_›; exact ⟨⟨k + 1, _, er, hlt, rfl, rfl, hshort _ (sizeE ht) hq _ (err2' ‹_› ‹_›), appL ht hq, nextB hB5 ht, Stp.under ((st.trans stW).trans st3) s hb5.block hb5.size ⟨hb5.os, hb5.tape, hb5.output⟩⟩, measL hlt⟩
    · have hkn : k = n := Nat.le_antisymm hk (Nat.le_of_not_lt hlt)
      subst hkn
      have hW0 : wrF ss [] 0 = some (acc, er) := by rw [← hW, List.drop_eq_nil_of_le (Nat.le_of_eq hln)]; rfl
      have hgw := st.grow
      go_wp2_with (go_at_call 32; refine (bString _ _ _ _ hI hgw).mono ?_; rintro E w5 ⟨rfl, hb5⟩)
      · go_ret2; exact ⟨_, rfl, e, badV' hln hn hW0 (by simpa using ‹(er != 0) = true›), st⟩
      · have he : er = 0 := by simpa using ‹(er != 0) = false›
        subst he
        go_ret2; exact ⟨_, rfl, e, goodV hln hn hW0, Stp.under st s hb5.block hb5.size ⟨hb5.os, hb5.tape, hb5.output⟩⟩

set_option maxRecDepth 100000 in
theorem write_big {sv : Value} {sa : Option Addr} {n c : Nat} (w : World) (hn : 4096 < n) : Calls Tryd.prog 11 #[.slice sa n c] w fun E w' => E = .returned (.tuple #[.string { data := #[] }, .int .i64 2]) ∧ w' = w := by
  have hn' : (4096 : Int) < ((n : Nat) : Int) := by omega
  go_enter Tryd.func11, Tryd.ntmps11
  go_wp2
  go_ret2
  exact ⟨rfl, rfl⟩
set_option maxRecDepth 100000 in
theorem write_ok {Z : H → Int → Bool} (hZ : Zok Z) (hx : ExtFor Tryd.prog 9 (gLineS Z)) : ExtFor Tryd.prog 11 (gWr Z) := by
  intro ys h v h' hev B e w cargs F k hv s hF
  have hent : (Go.callFunc 11 cargs).run Tryd.prog w = .ok (.enter 11 cargs) w := Go.Proofs.enters_of Tryd.func11 (by kernel_rfl) rfl cargs w
  rw [hent]
  simp only [InvPost]
  refine callsIn_of_calls hF ?_
  unfold gWr at hev
  split at hev
  case h_2 => cases hev
  rename_i p n c ex
  obtain ⟨cargs⟩ := cargs
  cases hv with
  | cons _ u _ us h1 h2 =>
    cases h2
    split at hev
    · rename_i hbig
      cases hev
      obtain ⟨sa, sc, rfl⟩ : ∃ sa sc, u = .slice sa n sc := by
        cases h1 with
        | sl0 => exact ⟨_, _, rfl⟩
        | sl => exact ⟨_, _, rfl⟩
      refine (write_big (sv := .nilIface) w hbig).mono ?_
      rintro E w' ⟨rfl, rfl⟩
      exact ⟨_, rfl, e, .tup _ _ (.cons _ _ _ _ (.s { data := #[] }) (.cons _ _ _ _ (.i _ _) .nil)), Stp.refl s⟩
    · rename_i hbig
      split at hev
      · rename_i ss hrd
        split at hev
        · rename_i hok
          cases hev
          exact write_walk hZ hx s h1 (rdSps_in hrd) (fun x hx => okB_ok (List.all_eq_true.1 hok x hx)) (by omega)
        · cases hev
      · cases hev
end Go.Proofs.YtjcchmmmbegamaaDoor.ScrW
