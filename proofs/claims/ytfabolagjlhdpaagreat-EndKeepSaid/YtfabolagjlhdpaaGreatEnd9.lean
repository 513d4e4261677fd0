/- endpoint: a tick, as a contract. -/
import Derived.Test.YtfabolagjlhdpaaGreatEnd8
namespace Am
set_option linter.all false
set_option maxRecDepth 20000
set_option maxHeartbeats 8000000
open Go (IntKind)
variable {pr : Prog}
/-- Why it closes, how many events that are, where they lie: by the deadline. -/
def whyOf : Nat → Int
  | 1 => 2
  | 2 => 4
  | _ => 5
def shutC (own : Nat → V) (role : Int) (T : Nat → Int) (t : Int) (n k : Nat) (s : V) : Nat → V := upd (upd (upd (endC role own T t n true) 12 (.i .i64 t)) 17 (.i .i64 (whyOf k))) 22 s
end Am
