/- The heap's shape lives on where nothing that lay is turned. -/
import Derived.Test.YtaocjjocncoahaaDoorMem
import Derived.Test.YtaocjjocncoahaaDoorShelfD
namespace Go.Proofs.YtaocjjocncoahaaDoor
open Go.RowKit

theorem shaped_below {P : Program} {w w' : World} (h : w.ShapedOpen P) (hb : Below w.heap.size w w') : w'.ShapedOpen P :=
  h.keptBut (may := fun _ => False) ⟨hb.os, hb.output, fun i hi => by
    rw [hb.block i hi]
    split
    · rename_i h1 h2
      rw [h1] at h2
      injection h2 with h2
      injection h2 with a b c
      subst a; subst b; subst c
      exact ⟨rfl, rfl, rfl, fun _ _ => rfl⟩
    · rename_i h1 h2
      rw [h1] at h2
      injection h2 with h2
      injection h2 with a b
      exact .inr ⟨a.symm, b.symm⟩
    · rfl⟩ (fun _ h => h.elim)
end Go.Proofs.YtaocjjocncoahaaDoor
