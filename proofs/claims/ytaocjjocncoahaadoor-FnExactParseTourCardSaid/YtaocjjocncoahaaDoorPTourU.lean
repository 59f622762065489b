/- ParseTour: one answer for each text; both sides give it. -/
import Derived.Test.YtaocjjocncoahaaDoorPTourS
namespace Go.Proofs.YtaocjjocncoahaaDoor
open Go.RowKit

theorem pt_is (s : ByteArray) : ∃ n zs ok, PT s n zs ok ∧ zs.length ≤ 8 := by
  by_cases h : ∃ W, IsT W ∧ textOf W = s
  · obtain ⟨W, hW, e⟩ := h
    exact ⟨_, _, true, .inl ⟨rfl, W, hW, e.symm, rfl, rfl⟩, by rw [casts_length]; exact hW.h8⟩
  · exact ⟨0, [], false, .inr ⟨rfl, rfl, rfl, fun W hW e => h ⟨W, hW, e⟩⟩, by simp⟩
theorem sParseTour_is (s : ByteArray) (n : Int) (zs : List Int) (ok : Bool) (w : World) (h : PT s n zs ok) (hs : s.size ≤ 1048576) :
    Calls Tryd.prog 6 #[.string s] w (NewTourOk w n zs ok) :=
  (sParseTour_any s w hs).mono fun e w' ⟨m, ys, b, h1, h2⟩ => by
    obtain ⟨rfl, rfl, rfl⟩ := h.one h1
    exact h2
theorem iParseTour_is (s : ByteArray) (n : Int) (zs : List Int) (ok : Bool) (w : World) (h : PT s n zs ok) (hs : s.size ≤ 1048576) (hp : Pow w) (he : Errs w) (hsh : w.ShapedOpen Tryd.prog) :
    Calls Tryd.prog 7 #[.string s] w (NewTourOk w n zs ok) :=
  (iParseTour_any s w hs hp he hsh).mono fun e w' ⟨m, ys, b, h1, h2⟩ => by
    obtain ⟨rfl, rfl, rfl⟩ := h.one h1
    exact h2
end Go.Proofs.YtaocjjocncoahaaDoor
