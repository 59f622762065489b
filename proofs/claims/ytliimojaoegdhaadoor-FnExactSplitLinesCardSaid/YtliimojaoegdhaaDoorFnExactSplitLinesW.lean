/- The law FnExactSplitLines, walked: it returns true. -/
import Derived.Test.YtliimojaoegdhaaDoorLines
namespace Go.Proofs.YtliimojaoegdhaaDoor
open Go.RowKit
theorem rSplitLines_len (s : ByteArray) : (rSplitLines s).length ≤ s.size + 1 := by
  have := rSplitAny_len s ⟨#[10]⟩
  unfold rSplitLines
  split
  · rw [List.length_take]; omega
  · omega
set_option maxHeartbeats 1600000 in
theorem walkFnExactSplitLines (s : ByteArray) (w : World) (hs : s.size ≤ maxLen) (hsh : w.ShapedOpen Tryd.prog) :
    Calls Tryd.prog 4 #[.string s] w fun e w' => e = .returned (.bool true) ∧ Below w.heap.size w w' := by
  unfold maxLen at hs
  by_cases g : 1048576 < s.size
  · skip
    go_enter Tryd.func4, Tryd.ntmps4
    go_wp2
    go_ret
    exact ⟨rfl, Below.refl _ _⟩
  have HS := Lib.hid (fun W' => sSplitLines_any s W' (by omega))
  have HI := Lib.hid (fun W' hW => iSplitLines_any s W' (by omega) (shaped_below hsh hW))
  have hlen := rSplitLines_len s
  generalize rSplitLines s = r at *
  have hr : r.length ≤ 1048577 := by omega
  have HEQ := Lib.hid (fun A' B' c' d' W' hr1 hr2 => eqStringS_any A' B' c' d' r W' hr1 hr2 (by omega))
  have HMK := Lib.hid (fun A' c' d' lo hi W' ho hhi => markStringsC A' c' d' r 1 lo hi W' ho hhi hr (Nat.le_refl _) (by omega))
  have HHD := Lib.hid (fun A' c' W' hrow => heldStringS_any A' c' r.length 1 W' hrow hr (Nat.le_refl _) (by omega))
  have e1 : ((1 : Int) + (r.length : Int) != 1 + (r.length : Int)) = false := by simp
  clear hlen
  go_enter Tryd.func4, Tryd.ntmps4
  go_wp2_with fail
  refine (HS.out _).mono ?_
  rintro e w1 ⟨W0, d0, dd0, rfl, ho0, hb1⟩
  go_wp2_with fail
  refine (HI.out _ hb1).mono ?_
  rintro e w2 ⟨G0, c0, cc0, rfl, hog, hb2⟩
  have hr0 : Row w2 w1.heap.size W0 (strs r) := ho0.row.below hb2 (Nat.le_refl _)
  have hz12 := hb2.size
  go_wp2_with fail
  refine (HEQ.out G0 W0 c0 d0 _ hog.row (hr0.mono hz12)).mono ?_
  rintro e w3 ⟨rfl, hb3⟩
  have hz23 := hb3.size
  have hog3 := hog.below hb3 (Nat.le_refl _)
  have hr3 : Row w3 w1.heap.size W0 (strs r) := hr0.below hb3 hz12
  go_wp2_with fail
  refine (HMK.out G0 c0 cc0 w1.heap.size w2.heap.size _ hog3 (by omega)).mono ?_
  rintro e w4 ⟨rfl, hog4, hon4⟩
  have hz34 := hon4.size
  have hr4 : Row w4 w1.heap.size W0 (strs r) := hr3.rowOnly hon4 (Nat.le_refl _) (by omega)
  have hb4 : Below w.heap.size w w4 := (below_trans hb1 (below_trans hb2 hb3)).trans (hon4.below hb1.size (by have := hb1.size; omega))
  have hrow4 : Row w4 w4.heap.size G0 (strs (smarks 1 r.length)) := hog4.row.mono (by omega)
  go_wp2_with fail
  refine (HHD.out G0 c0 _ hrow4).mono ?_
  rintro e w5 ⟨rfl, hb5⟩
  have hz45 := hb5.size
  go_wp2_with fail
  refine (HI.out _ (below_trans hb4 hb5)).mono ?_
  rintro e w6 ⟨G1, c1, cc1, rfl, hog1, hb6⟩
  have hb46 := below_trans hb5 hb6
  have hr6 : Row w6 w6.heap.size W0 (strs r) := (hr4.below hb46 (by omega)).mono (by have := hb46.size; omega)
  go_wp2_with fail
  refine (HEQ.out G1 W0 c1 d0 _ hog1.row hr6).mono ?_
  rintro e w7 ⟨rfl, hb7⟩
  have hb47 := below_trans hb46 hb7
  go_wp2_with fail
  refine (HHD.out G0 c0 _ (hrow4.rowAt hb47 (Nat.le_refl _))).mono ?_
  rintro e w8 ⟨rfl, hb8⟩
  go_wp2
  go_ret
  exact ⟨rfl, below_trans hb4 (below_trans hb47 hb8)⟩
end Go.Proofs.YtliimojaoegdhaaDoor
