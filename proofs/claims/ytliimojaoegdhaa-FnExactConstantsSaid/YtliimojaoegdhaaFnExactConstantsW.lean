/- The law FnExactConstants, walked: it returns true. -/
import Derived.Test.YtliimojaoegdhaaKit
import Derived.Test.YtliimojaoegdhaaRows
import Derived.Outline
namespace Go.Proofs.Ytliimojaoegdhaa
open Go.RowKit
theorem walkFnExactConstants (w : World) :
    Calls Try.prog 3 #[] w fun e w' => e = .returned (.bool true) ∧ Below w.heap.size w w' := by
  go_enter Try.func3, Try.ntmps3
  go_wp2
  go_ret
  exact ⟨rfl, Below.refl _ _⟩
end Go.Proofs.Ytliimojaoegdhaa
