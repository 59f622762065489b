/- The law FnExactCountKings, walked: it returns true. -/
import Derived.Test.YtaocjjocncoahaaKCountI
import Derived.Test.YtaocjjocncoahaaLib
namespace Go.Proofs.Ytaocjjocncoahaa
open Go.RowKit
set_option linter.unusedVariables false in
set_option linter.unusedSimpArgs false in
set_option maxHeartbeats 1600000 in
theorem walkFnExactCountKings (x0 : Int) (x1 : Int) (w : World)  (h0 : (Lit.int .i64 x0).wf = true) (h1 : (Lit.int .i64 x1).wf = true) :
    Calls Try.prog 3 #[.int .i64 x0, .int .i64 x1] w fun e w' => e = .returned (.bool true) ∧ Below w.heap.size w w' := by
  go_enter Try.func3, Try.ntmps3
  go_wp2_with fail
  refine (sCountKings_any x0 x1 _ h0 h1).mono ?_
  rintro e w1 ⟨rfl, hb⟩
  have hB : Below w.heap.size w w1 := Below.trans (by go_grown) (hb.mono (by first | omega | (simp only [World.size_alloc]; omega) | (simp; done) | (simp; omega)))
  have qw1 : w.heap.size + 0 ≤ w1.heap.size := by have := hb.size; (try simp at this); omega
  have H0 := hB
  go_wp2_with fail
  refine (iCountKings_any x0 x1 _ h0 h1).mono ?_
  rintro e w2 ⟨rfl, hb⟩
  have hB : Below w1.heap.size w1 w2 := Below.trans (by go_grown) (hb.mono (by first | omega | (simp only [World.size_alloc]; omega) | (simp; done) | (simp; omega)))
  have qw2 : w1.heap.size + 0 ≤ w2.heap.size := by have := hb.size; (try simp at this); omega
  have H0 := H0.trans (hB.mono (by omega))
  go_wp2
  go_ret
  exact ⟨rfl, H0⟩
end Go.Proofs.Ytaocjjocncoahaa
