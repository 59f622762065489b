/- The law FnExactIsName, walked: it returns true. -/
import Derived.Test.YtliimojaoegdhaaNames
namespace Go.Proofs.Ytliimojaoegdhaa
open Go.RowKit
theorem walkFnExactIsName (s : ByteArray) (w : World) (hs : s.size ≤ maxLen) :
    Calls Try.prog 5 #[.string s] w fun e w' => e = .returned (.bool true) ∧ Below w.heap.size w w' := by
  go_enter Try.func5, Try.ntmps5
  go_wp2_with (first
    | (go_at_call 11; refine (sName s _ hs).mono ?_; rintro e w' ⟨rfl, rfl⟩)
    | (go_at_call 12; refine (iName s _ hs).mono ?_; rintro e w' ⟨rfl, rfl⟩))
  all_goals (go_ret; exact ⟨rfl, Below.refl _ _⟩)
end Go.Proofs.Ytliimojaoegdhaa
