/- Script texts: the library's functions that have no text, or whose text is not walked. -/
import Derived.Test.YtjcchmmmbegamaaDoorScrX
import Derived.Lib.Bytealg
import Derived.Shelf.Strconv.Itoa4
namespace Am
set_option linter.unusedVariables false
set_option linter.unusedSimpArgs false
open Go (IntKind BinOp UnOp Value Program TypeId TypeDesc Operand Oper Code Tmp World Addr Obj Act Fence)
open Go.Proofs

def xCount (args : List V) (h : H) : Option (V × H) :=
  match args with
  | [.s l, .i .u8 c] => some (.i .i64 (l.count c.toNat.toUInt8 : Nat), h)
  | _ => none
theorem count_ok {P : Program} {f : Nat} {fn : Go.Func} (hf : P.funcs[f]? = some fn) (hname : (fn.name == "runtime.NumGoroutine") = false) (hb : fn.body.isNone = true) (hn : Go.Extern.findNext fn = none) (he : Go.Extern.find fn = some Go.Extern.BytealgCount.count) : ExtFor P f xCount := by
  intro args h v h' hev B e w cargs F n hv s hF
  unfold xCount at hev
  split at hev
  · rename_i l c
    cases hev
    obtain ⟨ws⟩ := cargs
    cases hv with
    | cons _ u _ us h1 h2 =>
      cases h2 with
      | cons _ u2 _ us2 h3 h4 =>
        cases h4
        obtain ⟨b, rfl, rfl⟩ := h1.s_inv
        obtain rfl := h3.i_inv
        rw [Go.run_callFunc_extern hf hname hb hn he]
        have hr := Go.Lib.run_countString (P := P) b c w
        rw [show (⟨[Value.string b, Value.int .u8 c]⟩ : Array Value) = #[Value.string b, Value.int .u8 c] from rfl, hr]
        simp only [Go.Result.andThen, InvPost]
        exact ⟨e, .i _ _, Stp.refl s⟩
  · cases hev
/-- Small numbers alone. -/
def zS (h : H) (n : Int) : Bool := decide (0 ≤ n) && decide (n < 100)
theorem zS_ok : Zok zS := fun _ _ _ _ h => h
theorem fmtS_ok {P : Program} {ρ : Go.Shelf.Ren} (L : Go.Proofs.Lays.n173 P ρ) : ExtFor P (ρ.f 173) (xFmt zS) := by
  intro args h v h' hev B e w cargs F k hv s hF
  have hent : (Go.callFunc (ρ.f 173) cargs).run P w = .ok (.enter (ρ.f 173) cargs) w := Go.Proofs.enters_of L.f173 (by kernel_rfl) rfl cargs w
  rw [hent]
  simp only [InvPost]
  refine callsIn_of_calls hF ?_
  obtain ⟨ws⟩ := cargs
  unfold xFmt at hev
  split at hev
  case h_2 => cases hev
  rename_i n b
  split at hev
  case isFalse => cases hev
  rename_i hc
  obtain ⟨rfl, hz, _⟩ := hc
  cases hev
  unfold zS at hz
  simp only [Bool.and_eq_true, decide_eq_true_eq] at hz
  obtain ⟨i, rfl⟩ : ∃ i : Nat, n = (i : Int) := ⟨n.toNat, by omega⟩
  have hi : i < 100 := by omega
  cases hv with
  | cons _ u1 _ us1 h1 h2 =>
  cases h2 with
  | cons _ u2 _ us2 h3 h4 =>
  cases h4
  obtain rfl := h1.i_inv
  obtain rfl := h3.i_inv
  refine (Any.strconv_FormatInt_10_small L i hi w).mono ?_
  rintro E w' ⟨rfl, rfl⟩
  rw [itoF_nat, dec20 (by omega)]
  exact ⟨_, rfl, e, .s ⟨(Go.Lib.decDigits i).toArray⟩, Stp.refl s⟩
end Am
