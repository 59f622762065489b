/- What the rows' lists of laid variables give the walks: the two errors of strconv's. -/
import Derived.Test.YtaocjjocncoahaaDoorLaid
import Derived.Test.YtaocjjocncoahaaDoorParse
namespace Go.Proofs.YtaocjjocncoahaaDoor
open Go.ChangeShapes Go.WideShapes Go.ChangeAt Go.RowKit

theorem star_err : "*" ++ "errors.errorString" = "*errors.errorString" := by decide
theorem sent_row (u : TypeId) (h : Tryd.prog.typeName? 3 u = some "*errors.errorString") : u = 100 :=
  typeName_ptr_named (nm := "errors.errorString") (by rw [star_err]; kernel_rfl) (by kernel_rfl) (by decide) u (by rw [star_err]; exact h)
theorem errs_of {W : World} {r : List (String × DataW Unit)} (h : laidMet Tryd.prog (("strconv.ErrRange", Rows.laid_strconv_ErrRange) :: ("strconv.ErrSyntax", Rows.laid_strconv_ErrSyntax) :: r) W) : Errs W := by
  obtain ⟨g, hg⟩ := Option.bind_eq_some_iff.1 (show ((Tryd.prog.globalNamed "strconv.ErrRange").bind fun g => (Tryd.prog.globals[g]?).map (·.type)) = some 63 by kernel_rfl)
  obtain ⟨g', hg'⟩ := Option.bind_eq_some_iff.1 (show ((Tryd.prog.globalNamed "strconv.ErrSyntax").bind fun g => (Tryd.prog.globals[g]?).map (·.type)) = some 63 by kernel_rfl)
  obtain ⟨a, s, hv, _⟩ := laid_sentinel h hg.1 hg.2 Tryd.underlying63 sent_row Tryd.underlying100 Tryd.underlying102 rfl rfl Tryd.underlying9 (by kernel_rfl) (by kernel_rfl)
  obtain ⟨b, t, hw, _⟩ := laid_sentinel h.tail hg'.1 hg'.2 Tryd.underlying63 sent_row Tryd.underlying100 Tryd.underlying102 rfl rfl Tryd.underlying9 (by kernel_rfl) (by kernel_rfl)
  exact ⟨⟨_, _, hw⟩, _, _, hv⟩
end Go.Proofs.YtaocjjocncoahaaDoor
