/- The law FnExactPadZeros, walked: it returns true. -/
import Derived.Test.YtliimojaoegdhaaText
namespace Go.Proofs.Ytliimojaoegdhaa
open Go.RowKit
theorem walkFnExactPadZeros (s : ByteArray) (n : Int) (w : World) (hs : s.size ≤ maxLen) (hn : (Lit.int .i64 n).wf = true) :
    Calls Try.prog 8 #[.string s, .int .i64 n] w fun e w' => e = .returned (.bool true) ∧ Below w.heap.size w w' := by
  unfold maxLen at hs
  by_cases g : 1048576 < s.size
  · skip
    go_enter Try.func8, Try.ntmps8
    go_wp2
    go_ret
    exact ⟨rfl, Below.refl _ _⟩
  · have HS := Lib.hid (fun W' => sPadZeros_any s n W' (by omega) hn)
    have HI := Lib.hid (fun W' => iPadZeros_any s n W' (by omega) hn)
    have hx : ((rPadZeros s n).toList == (rPadZeros s n).toList) = true := by simp
    clear hn
    generalize rPadZeros s n = r at *
    go_enter Try.func8, Try.ntmps8
    go_wp2_with fail
    refine (HS.out _).mono ?_
    rintro e w1 ⟨rfl, rfl⟩
    go_wp2_with fail
    refine (HI.out _).mono ?_
    rintro e w2 ⟨rfl, hb⟩
    go_wp2
    go_ret
    exact ⟨rfl, hb⟩
end Go.Proofs.Ytliimojaoegdhaa
