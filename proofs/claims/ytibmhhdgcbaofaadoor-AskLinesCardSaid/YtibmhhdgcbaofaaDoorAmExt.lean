/- AmExt: functions of the library that have no text: what they answer. -/
import Derived.Test.YtibmhhdgcbaofaaDoorAmDraw5
import Derived.Laws.Externs
namespace Am
set_option linter.unusedVariables false
set_option linter.unusedSimpArgs false
open Go (IntKind BinOp UnOp Value Program TypeId TypeDesc Operand Oper Code Tmp World Addr Obj Act Fence)

/-- Where a byte stands first. -/
def fIdx (l : List UInt8) (c : UInt8) : Int :=
  match l.findIdx? (fun b => b == c) with
  | some i => i
  | none => -1

theorem range_find (c : UInt8) : ∀ (l : List UInt8), (List.range l.length).find? (fun i => l.getD i 0 == c) = l.findIdx? (fun b => b == c)
  | [] => rfl
  | b :: l => by
    rw [List.length_cons, List.range_succ_eq_map, List.find?_cons, List.findIdx?_cons]
    by_cases h : b == c
    · simp [h]
    · simp only [List.getD_cons_zero, h]
      rw [List.find?_map, ← range_find c l]
      simp only [Function.comp_def, Nat.succ_eq_add_one, List.getD_cons_succ]
      rfl

theorem firstIdx_list (s : ByteArray) (c : UInt8) : Go.firstIdx s c = fIdx s.data.toList c := by
  unfold Go.firstIdx fIdx
  rw [← range_find c s.data.toList]
  have h1 : s.size = s.data.toList.length := rfl
  have h2 : ∀ i, s[i]! = s.data.toList.getD i 0 := fun i => by
    rw [List.getD_eq_getElem?_getD, Array.getElem?_toList]
    by_cases h : i < s.size
    · rw [getElem!_pos s i h]
      have : i < s.data.size := h
      rw [Array.getElem?_eq_getElem this]
      rfl
    · rw [getElem!_neg s i h]
      have : ¬ i < s.data.size := h
      rw [Array.getElem?_eq_none (by omega)]
      rfl
  rw [h1]
  simp only [h2]
  rfl

def xIndexByte (args : List V) (h : H) : Option (V × H) :=
  match args with
  | [.s l, .i .u8 c] => some (.i .i64 (fIdx l c.toNat.toUInt8), h)
  | _ => none

/-- What 'ExtOk' asks, of one function. -/
def ExtAt (P : Program) (f : Nat) (g : List V → H → Option (V × H)) : Prop := ∀ (args : List V) (h : H) (v : V) (h' : H), g args h = some (v, h') →
  ∀ (B : Nat) (e : Emb) (w : World) (cargs : Array Value) (F : Fence) (n : Nat), VRL e args cargs.toList → Sim (CC P) B e h w → wideF F → InvPost F n P (CallPost P B e h w v h') ((Go.callFunc f cargs).run P w)

theorem indexByte_ok {P : Program} {f : Nat} {fn : Go.Func} (hf : P.funcs[f]? = some fn) (hname : (fn.name == "runtime.NumGoroutine") = false) (hb : fn.body.isNone = true) (hn : Go.Extern.findNext fn = none) (he : Go.Extern.find fn = some Go.Extern.BytealgIndexByte.indexByte) : ExtAt P f xIndexByte := by
  intro args h v h' hev B e w cargs F n hv s hF
  unfold xIndexByte at hev
  split at hev
  · rename_i l c
    cases hev
    obtain ⟨ws⟩ := cargs
    cases hv with
    | cons _ u _ us h1 h2 =>
      cases h2 with
      | cons _ u2 _ us2 h3 h4 =>
        cases h4
        obtain ⟨b, rfl, rfl⟩ := h1.s_inv
        obtain rfl := h3.i_inv
        rw [Go.run_callFunc_extern hf hname hb hn he]
        have hr := Go.run_indexByte_string (P := P) b c w
        rw [show (⟨[Value.string b, Value.int .u8 c]⟩ : Array Value) = #[Value.string b, Value.int .u8 c] from rfl, hr]
        simp only [Go.Result.andThen, InvPost]
        rw [firstIdx_list]
        exact ⟨e, .i _ _, Stp.refl s⟩
  · cases hev

end Am
