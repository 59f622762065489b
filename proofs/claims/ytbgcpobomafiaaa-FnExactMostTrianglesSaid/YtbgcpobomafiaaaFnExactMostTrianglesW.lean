/- The law FnExactMostTriangles, walked: it returns true. -/
import Derived.Test.YtbgcpobomafiaaaMostTriangles
namespace Go.Proofs.Ytbgcpobomafiaaa
open Go.RowKit
theorem walkFnExactMostTriangles (n : Int) (_ : (Lit.int .i64 n).wf = true) (w : World) :
    Calls Try.prog 3 #[.int .i64 n] w fun e w' => e = .returned (.bool true) ∧ Below w.heap.size w w' := by
  go_enter Try.func3, Try.ntmps3
  go_wp2_with (first
    | (go_at_call 15; refine (sMost_any _ _).mono ?_; rintro e w' ⟨rfl, rfl⟩)
    | (go_at_call 16; refine (iMost_any _ _).mono ?_; rintro e w' ⟨rfl, rfl⟩))
  go_ret
  exact ⟨rfl, Below.refl _ _⟩
end Go.Proofs.Ytbgcpobomafiaaa
