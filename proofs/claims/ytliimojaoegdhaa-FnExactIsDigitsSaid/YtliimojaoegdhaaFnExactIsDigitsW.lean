/- The law FnExactIsDigits, walked: it returns true. -/
import Derived.Test.YtliimojaoegdhaaDigits
namespace Go.Proofs.Ytliimojaoegdhaa
open Go.RowKit
theorem walkFnExactIsDigits (s : ByteArray) (hs : s.size ≤ maxLen) (w : World) :
    Calls Try.prog 4 #[.string s] w fun e w' => e = .returned (.bool true) ∧ Below w.heap.size w w' := by
  go_enter Try.func4, Try.ntmps4
  go_wp2_with (first
    | (go_at_call 9; refine (sDigits s _ hs).mono ?_; rintro e w' ⟨rfl, rfl⟩)
    | (go_at_call 10; refine (iDigits s _ hs).mono ?_; rintro e w' ⟨rfl, rfl⟩))
  all_goals (go_ret; exact ⟨rfl, Below.refl _ _⟩)
end Go.Proofs.Ytliimojaoegdhaa
