/- Fields. -/
import Derived.Test.YtjcchmmmbegamaaDoorField1
import Derived.Test.YtjcchmmmbegamaaDoorAmAll3
namespace Am
set_option linter.unusedVariables false
structure Fd where
  n : List UInt8
  v : List UInt8
  z : Bool
  deriving DecidableEq
def Fd.row (f : Fd) : List V := [.s f.n, .s f.v, .b f.z]
def sRow (s : List UInt8) : List V := [.s s]
end Am
