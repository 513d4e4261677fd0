/- What the functions of the layer 'conf' answer: the plain ones. -/
import Derived.Test.YtkhnielggkcbiaaGreatDoorAmAll3
import Derived.Test.YtkhnielggkcbiaaGreatDoorAmAll2
import Derived.Test.YtkhnielggkcbiaaGreatDoorAmAll1
namespace Am
set_option linter.unusedVariables false
set_option linter.unusedSimpArgs false
set_option maxRecDepth 10000
variable {pr : Prog}

/-- What is asked of a rule that stands for a function. -/
def OkFor (pr : Prog) (af : AFunc) (g : List V → H → Option (V × H)) : Prop := ∀ args h v h', g args h = some (v, h') → wpF pr af args h (fun v1 h1 => Abs h v1 h1 v h')

end Am
