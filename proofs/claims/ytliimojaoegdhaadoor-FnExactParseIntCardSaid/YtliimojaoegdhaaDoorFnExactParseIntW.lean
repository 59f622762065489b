/- The law FnExactParseInt, walked: it returns true. -/
import Derived.Test.YtliimojaoegdhaaDoorParse
namespace Go.Proofs.YtliimojaoegdhaaDoor
open Go.RowKit
theorem walkFnExactParseInt (s : ByteArray) (w : World) (hs : s.size ≤ maxLen) (hp : Pow w) (he : Errs w) :
    Calls Tryd.prog 5 #[.string s] w fun e w' => e = .returned (.bool true) ∧ Below w.heap.size w w' := by
  unfold maxLen at hs
  by_cases hbig : 1048576 < s.size
  · skip
    go_enter Tryd.func5, Tryd.ntmps5
    go_wp2
    go_ret
    exact ⟨rfl, Below.refl _ _⟩
  have hs' : s.size ≤ 1048576 := by omega
  have HS := Lib.hid (sParse_any s w hs')
  have HI := Lib.hid (fun W' hp' he' => iParse_any s W' hs' hp' he')
  go_enter Tryd.func5, Tryd.ntmps5
  go_wp2_with fail
  refine HS.out.mono ?_
  rintro e w1 ⟨n, ok, rfl, P1, hb1⟩
  go_wp2_with fail
  refine (HI.out _ (hp.on hb1) (he.on hb1)).mono ?_
  rintro e w2 ⟨n', ok', rfl, P2, hb2⟩
  obtain ⟨rfl, rfl⟩ := P1.one P2
  clear P1 P2
  cases ok <;> (go_wp2; go_ret; exact ⟨rfl, below_trans hb1 hb2⟩)
end Go.Proofs.YtliimojaoegdhaaDoor
