/- The law FnExactCountSequences, walked: it returns true. -/
import Derived.Test.YtbgcpobomafiaaaCountSeq
namespace Go.Proofs.Ytbgcpobomafiaaa
open Go.RowKit
theorem walkFnExactCountSequences (n : Int) (w : World) (_ : (Lit.int .i64 n).wf = true) :
    Calls Try.prog 7 #[.int .i64 n] w fun e w' => e = .returned (.bool true) ∧ Below w.heap.size w w' := by
  go_enter Try.func7, Try.ntmps7
  go_wp2_with fail
  first
    | (refine (sCountSequences_any n w).mono ?_; rintro e w1 ⟨rfl, hb⟩; go_wp2_with fail; refine (iCountSequences_any n w1).mono ?_; rintro e w2 ⟨rfl, hb2⟩; go_wp2; go_ret; exact ⟨rfl, below_trans hb hb2⟩)
    | (refine (iCountSequences_any n w).mono ?_; rintro e w1 ⟨rfl, hb⟩; go_wp2_with fail; refine (sCountSequences_any n w1).mono ?_; rintro e w2 ⟨rfl, hb2⟩; go_wp2; go_ret; exact ⟨rfl, below_trans hb hb2⟩)
end Go.Proofs.Ytbgcpobomafiaaa
