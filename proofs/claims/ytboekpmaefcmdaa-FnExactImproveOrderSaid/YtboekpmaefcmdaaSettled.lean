/- IsSettled, walked. -/
import Derived.Test.YtboekpmaefcmdaaBetter
namespace Go.Proofs.Ytboekpmaefcmdaa
open Go.RowKit

/-- What both functions IsSettled answer. -/
def rIsSettled (s : Int) (zs : List Int) (os : List Int) : Bool := if rOrderOk s zs os then (nxt (toW zs) os).isNone else false
end Go.Proofs.Ytboekpmaefcmdaa
