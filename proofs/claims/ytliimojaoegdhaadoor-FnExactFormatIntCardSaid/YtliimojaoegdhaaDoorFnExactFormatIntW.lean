/- The law FnExactFormatInt, walked: it returns true. -/
import Derived.Test.YtliimojaoegdhaaDoorFmtD
namespace Go.Proofs.YtliimojaoegdhaaDoor
open Go.RowKit
theorem walkFnExactFormatInt (n : Int) (w : World) (hn : (Lit.int .i64 n).wf = true) (hp : Pow w) :
    Calls Tryd.prog 3 #[.int .i64 n] w fun e w' => e = .returned (.bool true) ∧ Below w.heap.size w w' := by
  have HS := Lib.hid (sFormat_any n w hn)
  have HI := Lib.hid (fun W' hp' => iFormat_any n W' hn hp')
  have hx : ((fmtI n).toList == (fmtI n).toList) = true := by simp
  clear hn
  generalize fmtI n = r at *
  go_enter Tryd.func3, Tryd.ntmps3
  go_wp2_with fail
  refine HS.out.mono ?_
  rintro e w1 ⟨rfl, hb1⟩
  go_wp2_with fail
  refine (HI.out _ (hp.on hb1)).mono ?_
  rintro e w2 ⟨rfl, hb2⟩
  go_wp2
  go_ret
  exact ⟨rfl, below_trans hb1 hb2⟩
end Go.Proofs.YtliimojaoegdhaaDoor
