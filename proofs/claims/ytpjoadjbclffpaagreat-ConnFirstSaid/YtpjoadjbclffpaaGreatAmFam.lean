/- AmFam: a contract at a family of heaps, out of the kernel's runs. -/
import Derived.Test.YtpjoadjbclffpaaGreatAmGcB
namespace Am
set_option linter.all false
open Go (IntKind BinOp UnOp Value Program)
theorem ExtFor.fam {P : Program} {pr : Prog} (hp : ProgOk P pr) {f : Nat} {af : AFunc} (hx : pr.ext f = none) (hf : pr.fn f = some af) {N : Nat} {A : Nat → List V} {G : Nat → H} {v : Nat → V} {S : Nat → H} {L : Nat → List Nat} {n : Nat}
    (hr : ∀ k, k < N → runK pr n (.fn f) (A k) (G k) (swept (G k) (S k) (L k) (v k)) = true) : ExtFor P f (gFam N A G v S) :=
  (hp.addFam hx hf hr).ext f _ ext_add_same
end Am
