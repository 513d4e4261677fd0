/- AmOps8: every operation as one theorem. -/
import Derived.Test.YtibmhhdgcbaofaaDoorAmOps7
namespace Am
set_option linter.unusedVariables false
set_option linter.unusedSimpArgs false
open Go (IntKind BinOp UnOp Value Program TypeId TypeDesc Operand Oper Code Tmp World Addr Obj Act)

variable {P : Program} {C : Cx} {B : Nat} {e e' : Emb} {h h' : H} {w w' : World} {t : Tm} {ρ : Operand → Value} {o : Oper} {v : V}

theorem bytes_z {by_ : Bool} {z : List V} (h : ¬ (by_ = true ∧ V.beqs z [.i .u8 0] = false)) : by_ = true → z = [.i .u8 0] := fun hb => by
  cases hz : V.beqs z [.i .u8 0] with
  | true => exact V.beqs_eq _ _ hz
  | false => exact absurd ⟨hb, hz⟩ h

theorem builtin_sound {ao : AOp} {c : Go.Call} {b : Go.Builtin} {as : List AOpd} (ho : o.op = .call c) (hb : c.callee = .builtin b) (has : opds c.args.toList = some as) (hc : compBuiltin P b c.argTypes.toList as = some ao)
    (s : Sim C B e h w) (hρ : OpdR e t ρ) (hev : ao.ev t.ev h = some (v, h')) : OpRes ao.kind C B e h w ((Go.execOp ρ o).run P w) v h' := by
  unfold compBuiltin at hc
  split at hc
  · rename_i ty ts x rest hts
    subst_vars
    split at hc
    · rename_i hd
      simp at hc; subst hc
      exact op_len (k := .str) ho hb s hρ ‹_› has hd hev
    · rename_i el hd
      simp at hc; subst hc
      exact op_len (k := .sl) ho hb s hρ ‹_› has ⟨el, hd⟩ hev
    · rename_i a b hd
      simp at hc; subst hc
      exact op_len (k := .map) ho hb s hρ ‹_› has ⟨a, b, hd⟩ hev
    · simp at hc
  · split at hc
    · rename_i el hd
      simp at hc; subst hc
      exact op_cap ho hb s hρ ‹_› has hd hev
    · simp at hc
  · split at hc
    · rename_i el hd
      obtain ⟨k, hk, hc⟩ := Option.bind_eq_some_iff.1 hc
      obtain ⟨bytes, hby, hc⟩ := Option.bind_eq_some_iff.1 hc
      obtain ⟨by_, hbt, hc⟩ := Option.bind_eq_some_iff.1 hc
      obtain ⟨zs, hzs, hc⟩ := Option.bind_eq_some_iff.1 hc
      obtain ⟨z, hz, hc⟩ := Option.bind_eq_some_iff.1 hc
      split at hc
      · simp at hc
      · rename_i hcond
        simp only [not_or] at hcond
        obtain ⟨hzk, hk0, hb1⟩ := hcond
        have hzk : z.length = k := by simpa using hzk
        cases zs with
        | true =>
          simp at hc; subst hc
          exact op_app0 ho hb s hρ ‹_› has hd hk hby hzs hz hzk hk0 (bytes_z hb1) hev
        | false =>
          simp at hc; subst hc
          exact op_app ho hb s hρ ‹_› has hd hk hby hbt hzs hz hzk hk0 (bytes_z hb1) hev
    · simp at hc
  · split at hc
    · rename_i el hd
      obtain ⟨k, hk, hc⟩ := Option.bind_eq_some_iff.1 hc
      obtain ⟨by_, hbt, hc⟩ := Option.bind_eq_some_iff.1 hc
      split at hc
      · simp at hc
      · rename_i hcond
        simp at hc; subst hc
        exact op_copy ho hb s hρ ‹_› has hd hk (fun hh => by by_cases h1 : k = 1; exact h1; exact absurd ⟨hh, h1⟩ hcond) hev
    · simp at hc
  · split at hc
    · rename_i el hd
      obtain ⟨by_, hbt, hc⟩ := Option.bind_eq_some_iff.1 hc
      obtain ⟨z, hz, hc⟩ := Option.bind_eq_some_iff.1 hc
      split at hc
      · simp at hc
      · rename_i hcond
        simp at hc; subst hc
        exact op_clear ho hb s hρ ‹_› has hd hz (bytes_z hcond) hev
    · simp at hc
  · simp at hc; subst hc
    exact op_min ho hb s hρ has hev
  · simp at hc; subst hc
    exact op_max ho hb s hρ has hev
  · simp at hc

theorem op_sound {ao : AOp} (hc : compOp P o = some ao) (s : Sim C B e h w) (hρ : OpdR e t ρ) (hev : ao.ev t.ev h = some (v, h')) : OpRes ao.kind C B e h w ((Go.execOp ρ o).run P w) v h' := by
  unfold compOp at hc
  split at hc
  · rename_i x ho
    obtain ⟨y, hy, rfl⟩ := Option.map_eq_some_iff.1 hc
    simp only [AOp.ev] at hev; simp at hev; obtain ⟨rfl, rfl⟩ := hev
    exact op_move (.inl ho) s hρ hy
  · rename_i x ho
    obtain ⟨y, hy, rfl⟩ := Option.map_eq_some_iff.1 hc
    simp only [AOp.ev] at hev; simp at hev; obtain ⟨rfl, rfl⟩ := hev
    exact op_move (.inr ho) s hρ hy
  · rename_i c a b ho
    obtain ⟨c', hc', hc⟩ := Option.bind_eq_some_iff.1 hc
    obtain ⟨a', ha', hc⟩ := Option.bind_eq_some_iff.1 hc
    obtain ⟨b', hb', hc⟩ := Option.bind_eq_some_iff.1 hc
    cases hc
    exact op_pick ho s hρ hc' ha' hb' hev
  · rename_i ty ho
    obtain ⟨z, hz, rfl⟩ := Option.map_eq_some_iff.1 hc
    exact op_alloc ho s hz hev
  · rename_i ty x ho
    obtain ⟨k, hk, hc⟩ := Option.bind_eq_some_iff.1 hc
    obtain ⟨y, hy, rfl⟩ := Option.map_eq_some_iff.1 hc
    exact op_box ho s hρ hy hev
  · rename_i ty ps ho
    split at hc
    · rename_i fs hd
      obtain ⟨z, hz, hc⟩ := Option.bind_eq_some_iff.1 hc
      obtain ⟨qs, hq, hc⟩ := Option.bind_eq_some_iff.1 hc
      split at hc
      · rename_i hall
        simp at hc; subst hc
        exact op_buildS ho s hρ hd hz hq hall hev
      · simp at hc
    · rename_i len el hd
      obtain ⟨z, hz, hc⟩ := Option.bind_eq_some_iff.1 hc
      obtain ⟨k, hk, hc⟩ := Option.bind_eq_some_iff.1 hc
      obtain ⟨qs, hq, rfl⟩ := Option.map_eq_some_iff.1 hc
      exact op_buildA ho s hρ hd hz hk hq hev
    · simp at hc
  · rename_i ty len ps ho
    split at hc
    · rename_i el hd
      obtain ⟨k, hk, hc⟩ := Option.bind_eq_some_iff.1 hc
      obtain ⟨z, hz, hc⟩ := Option.bind_eq_some_iff.1 hc
      obtain ⟨by_, hbt, hc⟩ := Option.bind_eq_some_iff.1 hc
      obtain ⟨qs, hq, hc⟩ := Option.bind_eq_some_iff.1 hc
      split at hc
      · rename_i hcond
        simp at hc; subst hc
        exact op_mkSl ho s hρ hd hk hz hq hcond.1 hcond.2 hev
      · simp at hc
    · simp at hc
  · rename_i ty x ho
    obtain ⟨n, hn, hc⟩ := Option.bind_eq_some_iff.1 hc
    obtain ⟨g, hg, hc⟩ := Option.bind_eq_some_iff.1 hc
    obtain ⟨y, hy, hc⟩ := Option.bind_eq_some_iff.1 hc
    split at hc
    · rename_i hgn
      simp at hc; subst hc
      exact op_load ho s hρ hy hn hg hgn hev
    · simp at hc
  · rename_i ty x y ho
    obtain ⟨n, hn, hc⟩ := Option.bind_eq_some_iff.1 hc
    obtain ⟨x', hx', hc⟩ := Option.bind_eq_some_iff.1 hc
    obtain ⟨y', hy', rfl⟩ := Option.map_eq_some_iff.1 hc
    exact op_store ho s hρ hx' hy' hn hev
  · rename_i x ho
    obtain ⟨y, hy, rfl⟩ := Option.map_eq_some_iff.1 hc
    exact op_nilCheck ho s hρ hy hev
  · rename_i op ty x y yt ho
    obtain ⟨x', hx', hc⟩ := Option.bind_eq_some_iff.1 hc
    obtain ⟨y', hy', hc⟩ := Option.bind_eq_some_iff.1 hc
    have eqc : (op = .eql ∨ op = .neq) → (match P.underlying ty with
        | some (.int _) | some .string => some (AOp.bin op x' y')
        | some d => (eqKind d).bind fun k => some (.eq (op == .neq) k x' y')
        | none => none) = some ao → OpRes ao.kind C B e h w ((Go.execOp ρ o).run P w) v h' := by
      intro hop hc
      split at hc
      · simp at hc; subst hc; exact op_bin ho s hρ hx' hy' hev
      · simp at hc; subst hc; exact op_bin ho s hρ hx' hy' hev
      · rename_i d _ _ hd
        obtain ⟨k, hk, hc⟩ := Option.bind_eq_some_iff.1 hc
        cases hc
        exact op_eq ho hop s hρ hx' hy' hd hk hev
      · simp at hc
    unfold compBin at hc
    split at hc
    · exact eqc (.inl rfl) hc
    · exact eqc (.inr rfl) hc
    · simp at hc; subst hc; exact op_bin ho s hρ hx' hy' hev
  · rename_i op ty x ho
    obtain ⟨y, hy, rfl⟩ := Option.map_eq_some_iff.1 hc
    exact op_un ho s hρ hy hev
  · rename_i a b x ho
    obtain ⟨y, hy, hc⟩ := Option.bind_eq_some_iff.1 hc
    unfold compConv at hc
    split at hc
    · simp at hc; subst hc; exact op_convI ho s hρ hy ‹_› ‹_› hev
    · simp at hc; subst hc; exact op_convSS ho s hρ hy ‹_› ‹_› hev
    · simp at hc; subst hc; exact op_convRS ho s hρ hy ‹_› ‹_› hev
    · split at hc
      · simp at hc; subst hc; exact op_convSB ho s hρ hy ‹_› ‹_› (by simpa using ‹(_ : Option Bool) = some true›) hev
      · simp at hc
    · split at hc
      · simp at hc; subst hc; exact op_convBS ho s hρ hy ‹_› ‹_› (by simpa using ‹(_ : Option Bool) = some true›) hev
      · simp at hc
    · split at hc
      · rename_i hcond
        simp at hc; subst hc; exact op_convBB ho s hρ hy hcond.1 ‹_› ‹_› hcond.2 hev
      · simp at hc
    · simp at hc
  · rename_i ty x ho
    split at hc
    · simp at hc
    · rename_i d hne hd
      obtain ⟨y, hy, rfl⟩ := Option.map_eq_some_iff.1 hc
      exact op_mkI ho s hρ hy hd (fun ms hh => hne ms (by rw [← hh]; try exact hd; try rfl)) hev
    · simp at hc
  · rename_i f first caps ho
    split at hc
    · rename_i hf
      obtain ⟨cs, hcs, rfl⟩ := Option.map_eq_some_iff.1 hc
      exact op_mkF ho s hρ hf hcs hev
    · simp at hc
  · rename_i ty ho
    simp at hc; subst hc
    exact op_mkM ho s hev
  · rename_i ty l c ho
    split at hc
    · rename_i el hd
      obtain ⟨z, hz, hc⟩ := Option.bind_eq_some_iff.1 hc
      obtain ⟨k, hk, hc⟩ := Option.bind_eq_some_iff.1 hc
      obtain ⟨by_, hbt, hc⟩ := Option.bind_eq_some_iff.1 hc
      obtain ⟨bytes, hby, hc⟩ := Option.bind_eq_some_iff.1 hc
      obtain ⟨l', hl', hc⟩ := Option.bind_eq_some_iff.1 hc
      obtain ⟨c', hc', hc⟩ := Option.bind_eq_some_iff.1 hc
      split at hc
      · rename_i hcond
        simp at hc; subst hc
        exact op_mkS ho s hρ hl' hc' hd hz hk hby hcond.1 hcond.2 hev
      · simp at hc
    · simp at hc
  · rename_i ty x lo hi mx ho
    obtain ⟨x', hx', hc⟩ := Option.bind_eq_some_iff.1 hc
    obtain ⟨lo', hlo, hc⟩ := Option.bind_eq_some_iff.1 hc
    obtain ⟨hi', hhi, hc⟩ := Option.bind_eq_some_iff.1 hc
    obtain ⟨mx', hmx, hc⟩ := Option.bind_eq_some_iff.1 hc
    split at hc
    · rename_i hd
      split at hc
      · rename_i hm
        simp at hc; subst hc
        have : mx = none := by
          cases mx with
          | none => rfl
          | some m =>
            simp only [opdO] at hmx
            obtain ⟨m', _, rfl⟩ := Option.map_eq_some_iff.1 hmx
            simp at hm
        subst this
        exact op_sliceS ho s hρ hx' hd hlo hhi hev
      · simp at hc
    · rename_i el hd
      obtain ⟨k, hk, hc⟩ := Option.bind_eq_some_iff.1 hc
      split at hc
      · simp at hc
      · rename_i hcond
        simp at hc; subst hc
        refine op_sliceL ho s hρ hx' hd hk hlo hhi hmx (fun hm => ?_) hev
        cases hi' with
        | none => exact absurd ⟨hm, rfl⟩ hcond
        | some _ => rfl
    · simp at hc
  · rename_i ty x i ho
    split at hc
    · rename_i fs hd
      obtain ⟨f, hf, hc⟩ := Option.bind_eq_some_iff.1 hc
      obtain ⟨n, hn, hc⟩ := Option.bind_eq_some_iff.1 hc
      split at hc
      · simp at hc
      · rename_i h0
        obtain ⟨y, hy, rfl⟩ := Option.map_eq_some_iff.1 hc
        exact op_fa ho s hρ hy hd hf hn h0 hev
    · simp at hc
  · rename_i ty x i ho
    split at hc
    · rename_i fs hd
      obtain ⟨f, hf, hc⟩ := Option.bind_eq_some_iff.1 hc
      obtain ⟨n, hn, hc⟩ := Option.bind_eq_some_iff.1 hc
      obtain ⟨g, hg, hc⟩ := Option.bind_eq_some_iff.1 hc
      split at hc
      · rename_i hgn
        obtain ⟨y, hy, rfl⟩ := Option.map_eq_some_iff.1 hc
        exact op_fld ho s hρ hy hd hf hn hg hgn hev
      · simp at hc
    · simp at hc
  · rename_i ty x i ho
    obtain ⟨x', hx', hc⟩ := Option.bind_eq_some_iff.1 hc
    obtain ⟨i', hi', hc⟩ := Option.bind_eq_some_iff.1 hc
    split at hc
    · rename_i el hd
      obtain ⟨k, hk, hc⟩ := Option.bind_eq_some_iff.1 hc
      cases hc
      exact op_ia ho s hρ hx' hi' hd hk hev
    · rename_i len el hd
      obtain ⟨k, hk, hc⟩ := Option.bind_eq_some_iff.1 hc
      cases hc
      exact op_iaA ho s hρ hx' hi' hd hk hev
    · simp at hc
  · rename_i ty x i ho
    obtain ⟨x', hx', hc⟩ := Option.bind_eq_some_iff.1 hc
    obtain ⟨i', hi', hc⟩ := Option.bind_eq_some_iff.1 hc
    split at hc
    · rename_i hd
      simp at hc; subst hc
      exact op_ixS ho s hρ hx' hi' hd hev
    · rename_i len el hd
      obtain ⟨k, hk, hc⟩ := Option.bind_eq_some_iff.1 hc
      obtain ⟨g, hg, hc⟩ := Option.bind_eq_some_iff.1 hc
      split at hc
      · rename_i hgn
        simp at hc; subst hc
        exact op_ixA ho s hρ hx' hi' hd hk hg hgn hev
      · simp at hc
    · simp at hc
  · rename_i ty x i ok ho
    obtain ⟨x', hx', hc⟩ := Option.bind_eq_some_iff.1 hc
    obtain ⟨i', hi', hc⟩ := Option.bind_eq_some_iff.1 hc
    split at hc
    · rename_i kt et hd
      obtain ⟨kk, hkk, hc⟩ := Option.bind_eq_some_iff.1 hc
      obtain ⟨z, hz, hc⟩ := Option.bind_eq_some_iff.1 hc
      cases hc
      exact op_lk ho s hρ hx' hi' hd hkk hz hev
    · simp at hc
  · rename_i ty m k x ho
    obtain ⟨m', hm', hc⟩ := Option.bind_eq_some_iff.1 hc
    obtain ⟨k', hk', hc⟩ := Option.bind_eq_some_iff.1 hc
    obtain ⟨x', hx', hc⟩ := Option.bind_eq_some_iff.1 hc
    split at hc
    · rename_i kt et hd
      obtain ⟨kk, hkk, hc⟩ := Option.bind_eq_some_iff.1 hc
      cases hc
      exact op_mu (.inl ho) s hρ hm' hk' hx' hd hkk hev
    · simp at hc
  · rename_i ty m k x ho
    obtain ⟨m', hm', hc⟩ := Option.bind_eq_some_iff.1 hc
    obtain ⟨k', hk', hc⟩ := Option.bind_eq_some_iff.1 hc
    obtain ⟨x', hx', hc⟩ := Option.bind_eq_some_iff.1 hc
    split at hc
    · rename_i kt et hd
      obtain ⟨kk, hkk, hc⟩ := Option.bind_eq_some_iff.1 hc
      cases hc
      exact op_mu (.inr ho) s hρ hm' hk' hx' hd hkk hev
    · simp at hc
  · rename_i ty x ho
    obtain ⟨x', hx', hc⟩ := Option.bind_eq_some_iff.1 hc
    split at hc
    · rename_i hd
      simp at hc; subst hc
      exact op_rngS ho s hρ hx' hd hev
    · simp at hc
  · rename_i x ho
    obtain ⟨y, hy, rfl⟩ := Option.map_eq_some_iff.1 hc
    exact op_nextS ho s hρ hy hev
  · rename_i x i ho
    obtain ⟨y, hy, rfl⟩ := Option.map_eq_some_iff.1 hc
    exact op_ext ho s hρ hy hev
  · rename_i c ho
    split at hc
    · simp at hc
    · rename_i b hb
      obtain ⟨as, has, hc⟩ := Option.bind_eq_some_iff.1 hc
      exact builtin_sound ho hb has hc s hρ hev
    · simp at hc
  · simp at hc

end Am
