/- Small words for the uses of the framework. No condition. -/
import Derived.Test.YtjjgfenincdgpaaFwL
namespace Go.Tr
open Go
set_option linter.unusedSimpArgs false

def drawsOf : List (Nat × DTree × List Nat) → Draws
  | [], _ => none
  | (n, t) :: r, id => match Nat.beq n id with
    | true => some t
    | false => drawsOf r id

end Go.Tr
