/- What the rows' lists of laid variables give the walks. -/
import Derived.Test.YtaocjjocncoahaaDoorCards
import Derived.Test.YtaocjjocncoahaaDoorTie
import Derived.WalkKit
import Derived.ProofKit
import Derived.OpenShut
import Derived.Deep.DeepHandedRow
import Derived.Lib.LaidTab
import Derived.Stop.LaidErr
import Derived.LaidMore
import Derived.SevenTiedAt
import Derived.Test.YtaocjjocncoahaaDoorFmtD
namespace Go.Proofs.YtaocjjocncoahaaDoor
open Go.ChangeShapes Go.WideShapes Go.ChangeAt Go.RowKit

theorem own : ownKnob Tryd.prog.godebug = none := by kernel_rfl
theorem laidOut : laidOutB Tryd.prog = true := by kernel_rfl
/-- The table of powers of ten, third on the list. -/
theorem pow_of {W : World} {x y : String × DataW Unit} {r : List (String × DataW Unit)} (h : laidMet Tryd.prog (x :: y :: ("internal/strconv.uint64pow10", Rows.laid_internal_strconv_uint64pow10) :: r) W) : Pow W := by
  obtain ⟨g, hg⟩ := Option.bind_eq_some_iff.1 (show ((Tryd.prog.globalNamed "internal/strconv.uint64pow10").bind fun g => (Tryd.prog.globals[g]?).map (·.type)) = some 108 by kernel_rfl)
  exact Lib.tabIs_of_head (zs := Lib.pow10Tab) hg.1 hg.2 Tryd.underlying108 Tryd.underlying87 (by kernel_rfl) (by kernel_rfl) h.tail.tail
end Go.Proofs.YtaocjjocncoahaaDoor
