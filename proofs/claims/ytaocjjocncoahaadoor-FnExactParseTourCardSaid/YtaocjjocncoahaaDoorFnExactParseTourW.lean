/- The law FnExactParseTour, walked: it returns true. -/
import Derived.Test.YtaocjjocncoahaaDoorPTourU
import Derived.Test.YtaocjjocncoahaaDoorLib
namespace Go.Proofs.YtaocjjocncoahaaDoor
open Go.RowKit
set_option linter.unusedVariables false in
set_option linter.unusedSimpArgs false in
set_option maxHeartbeats 1600000 in
theorem walkFnExactParseTour (x0 : ByteArray) (w : World) (hx : x0.size ≤ maxLen) (hp : Pow w) (he : Errs w) (hsh : w.ShapedOpen Tryd.prog) :
    Calls Tryd.prog 3 #[.string x0] w fun e w' => e = .returned (.bool true) ∧ Below w.heap.size w w' := by
  unfold maxLen at hx
  by_cases hbig : 1048576 < x0.size
  · go_enter Tryd.func3, Tryd.ntmps3
    go_wp2
    go_ret
    exact ⟨rfl, Below.refl _ _⟩
  obtain ⟨T0, R0, B0, HPT, hR⟩ := pt_is x0
  have HS := Lib.hid (fun W' => sParseTour_is x0 T0 R0 B0 W' HPT (by omega))
  have HI := Lib.hid (fun W' (hb : Below w.heap.size w W') => iParseTour_is x0 T0 R0 B0 W' HPT (by omega) (hp.on hb) (he.on hb) (shaped_below hsh hb))
  clear HPT hp he hsh
  have hbn : (B0 != B0) = false := by simp
  go_enter Tryd.func3, Tryd.ntmps3
  go_wp2_with fail
  refine (HS.out _).mono ?_
  rintro e w1 ⟨Bo0, do0, rfl, o0, hb⟩
  have hB : Below w.heap.size w w1 := Below.trans (by go_grown) (hb.mono (by first | omega | (simp only [World.size_alloc]; omega) | (simp; done) | (simp; omega)))
  have qw1 : w.heap.size + 0 ≤ w1.heap.size := by have := hb.size; (try simp at this); omega
  have H0 := hB
  have o0 := o0.mono (lo' := w.heap.size + 0) (by first | omega | (simp only [World.size_alloc]; omega) | (simp; done) | (simp; omega)) (Nat.le_refl _)
  go_wp2_with fail
  refine (HI.out _ (below_trans H0 (by go_grown))).mono ?_
  rintro e w2 ⟨Bo1, do1, rfl, o1, hb⟩
  have hB : Below w1.heap.size w1 w2 := Below.trans (by go_grown) (hb.mono (by first | omega | (simp only [World.size_alloc]; omega) | (simp; done) | (simp; omega)))
  have o0 := o0.below hB (by omega)
  have vo0_0 : w2.cell? ⟨w1.heap.size, 0, none⟩ = some (.int .i64 T0) := (hb.cell (p := ⟨w1.heap.size, 0, none⟩) (by first | omega | (simp only [World.size_alloc]; omega) | (simp; done) | (simp; omega))).trans (by go_simp)
  have vo0_1 : w2.cell? ⟨w1.heap.size, 1, none⟩ = some (.slice Bo0 R0.length do0) := (hb.cell (p := ⟨w1.heap.size, 1, none⟩) (by first | omega | (simp only [World.size_alloc]; omega) | (simp; done) | (simp; omega))).trans (by go_simp)
  have qw2 : w1.heap.size + 1 ≤ w2.heap.size := by have := hb.size; (try simp at this); omega
  have H0 := H0.trans (hB.mono (by omega))
  have o1 := o1.mono (lo' := w1.heap.size + 1) (by first | omega | (simp only [World.size_alloc]; omega) | (simp; done) | (simp; omega)) (Nat.le_refl _)
  have Pvo0_0 : (w2.alloc (.cells #[.int .i64 T0, .slice Bo1 R0.length do1] 24)).cell? ⟨w1.heap.size, 0, none⟩ = _ := (World.cell?_alloc_past _ _ _ (by omega)).trans vo0_0
  have Pvo0_1 : (w2.alloc (.cells #[.int .i64 T0, .slice Bo1 R0.length do1] 24)).cell? ⟨w1.heap.size, 1, none⟩ = _ := (World.cell?_alloc_past _ _ _ (by omega)).trans vo0_1
  go_wp2_with fail
  clear Pvo0_0 Pvo0_1
  refine (eqTour_any Bo1 Bo0 do1 do0 T0 R0 _ (o1.rowAt (by go_grown) (by omega)) (o0.rowAt (by go_grown) (by omega)) (by omega)).mono ?_
  rintro e w3 ⟨rfl, hb⟩
  have hB : Below w2.heap.size w2 w3 := Below.trans (by go_grown) (hb.mono (by first | omega | (simp only [World.size_alloc]; omega) | (simp; done) | (simp; omega)))
  have o0 := o0.below hB (by omega)
  have vo0_0 := (hB.cell (p := ⟨w1.heap.size, 0, none⟩) (by first | omega | (simp only [World.size_alloc]; omega) | (simp; done) | (simp; omega))).trans vo0_0
  have vo0_1 := (hB.cell (p := ⟨w1.heap.size, 1, none⟩) (by first | omega | (simp only [World.size_alloc]; omega) | (simp; done) | (simp; omega))).trans vo0_1
  have o1 := o1.below hB (by omega)
  have vo1_0 : w3.cell? ⟨w2.heap.size, 0, none⟩ = some (.int .i64 T0) := (hb.cell (p := ⟨w2.heap.size, 0, none⟩) (by first | omega | (simp only [World.size_alloc]; omega) | (simp; done) | (simp; omega))).trans (by go_simp)
  have vo1_1 : w3.cell? ⟨w2.heap.size, 1, none⟩ = some (.slice Bo1 R0.length do1) := (hb.cell (p := ⟨w2.heap.size, 1, none⟩) (by first | omega | (simp only [World.size_alloc]; omega) | (simp; done) | (simp; omega))).trans (by go_simp)
  have qw3 : w2.heap.size + 1 ≤ w3.heap.size := by have := hb.size; (try simp at this); omega
  have H0 := H0.trans (hB.mono (by omega))
  go_wp2_with fail
  refine (markTour_any Bo1 do1 T0 R0 1 _ _ _ o1 (by omega) (by omega) (by omega) (by omega)).mono ?_
  rintro e w4 ⟨rfl, mo1, hg⟩
  clear o1
  have o1 := mo1
  clear mo1
  have o0 := o0.only hg (by omega) (by omega)
  have vo0_0 := (hg.cell (p := ⟨w1.heap.size, 0, none⟩) (by first | omega | (simp only [World.size_alloc]; omega) | (simp; done) | (simp; omega)) (by first | (simp; done) | (simp; omega))).trans vo0_0
  have vo0_1 := (hg.cell (p := ⟨w1.heap.size, 1, none⟩) (by first | omega | (simp only [World.size_alloc]; omega) | (simp; done) | (simp; omega)) (by first | (simp; done) | (simp; omega))).trans vo0_1
  have vo1_0 := (hg.cell (p := ⟨w2.heap.size, 0, none⟩) (by first | omega | (simp only [World.size_alloc]; omega) | (simp; done) | (simp; omega)) (by first | (simp; done) | (simp; omega))).trans vo1_0
  have vo1_1 := (hg.cell (p := ⟨w2.heap.size, 1, none⟩) (by first | omega | (simp only [World.size_alloc]; omega) | (simp; done) | (simp; omega)) (by first | (simp; done) | (simp; omega))).trans vo1_1
  have qw4 : w3.heap.size ≤ w4.heap.size := hg.size
  have H0 := below_only H0 hg (by omega) (by omega)
  go_wp2_with fail
  refine (heldTour_any Bo1 do1 R0.length T0 1 _ (o1.rowAt (by go_grown) (by omega)) (by omega) (by omega) (by omega)).mono ?_
  rintro e w5 ⟨rfl, hb⟩
  have hB : Below w4.heap.size w4 w5 := Below.trans (by go_grown) (hb.mono (by first | omega | (simp only [World.size_alloc]; omega) | (simp; done) | (simp; omega)))
  have o0 := o0.below hB (by omega)
  have vo0_0 := (hB.cell (p := ⟨w1.heap.size, 0, none⟩) (by first | omega | (simp only [World.size_alloc]; omega) | (simp; done) | (simp; omega))).trans vo0_0
  have vo0_1 := (hB.cell (p := ⟨w1.heap.size, 1, none⟩) (by first | omega | (simp only [World.size_alloc]; omega) | (simp; done) | (simp; omega))).trans vo0_1
  have o1 := o1.below hB (by omega)
  have vo1_0 := (hB.cell (p := ⟨w2.heap.size, 0, none⟩) (by first | omega | (simp only [World.size_alloc]; omega) | (simp; done) | (simp; omega))).trans vo1_0
  have vo1_1 := (hB.cell (p := ⟨w2.heap.size, 1, none⟩) (by first | omega | (simp only [World.size_alloc]; omega) | (simp; done) | (simp; omega))).trans vo1_1
  have qw5 : w4.heap.size + 0 ≤ w5.heap.size := by have := hb.size; (try simp at this); omega
  have H0 := H0.trans (hB.mono (by omega))
  go_wp2_with fail
  refine (HI.out _ (below_trans H0 (by go_grown))).mono ?_
  rintro e w6 ⟨Bo2, do2, rfl, o2, hb⟩
  have hB : Below w5.heap.size w5 w6 := Below.trans (by go_grown) (hb.mono (by first | omega | (simp only [World.size_alloc]; omega) | (simp; done) | (simp; omega)))
  have o0 := o0.below hB (by omega)
  have vo0_0 := (hB.cell (p := ⟨w1.heap.size, 0, none⟩) (by first | omega | (simp only [World.size_alloc]; omega) | (simp; done) | (simp; omega))).trans vo0_0
  have vo0_1 := (hB.cell (p := ⟨w1.heap.size, 1, none⟩) (by first | omega | (simp only [World.size_alloc]; omega) | (simp; done) | (simp; omega))).trans vo0_1
  have o1 := o1.below hB (by omega)
  have vo1_0 := (hB.cell (p := ⟨w2.heap.size, 0, none⟩) (by first | omega | (simp only [World.size_alloc]; omega) | (simp; done) | (simp; omega))).trans vo1_0
  have vo1_1 := (hB.cell (p := ⟨w2.heap.size, 1, none⟩) (by first | omega | (simp only [World.size_alloc]; omega) | (simp; done) | (simp; omega))).trans vo1_1
  have qw6 : w5.heap.size + 0 ≤ w6.heap.size := by have := hb.size; (try simp at this); omega
  have H0 := H0.trans (hB.mono (by omega))
  have o2 := o2.mono (lo' := w5.heap.size + 0) (by first | omega | (simp only [World.size_alloc]; omega) | (simp; done) | (simp; omega)) (Nat.le_refl _)
  have Pvo0_0 : (w6.alloc (.cells #[.int .i64 T0, .slice Bo2 R0.length do2] 24)).cell? ⟨w1.heap.size, 0, none⟩ = _ := (World.cell?_alloc_past _ _ _ (by omega)).trans vo0_0
  have Pvo0_1 : (w6.alloc (.cells #[.int .i64 T0, .slice Bo2 R0.length do2] 24)).cell? ⟨w1.heap.size, 1, none⟩ = _ := (World.cell?_alloc_past _ _ _ (by omega)).trans vo0_1
  have Pvo1_0 : (w6.alloc (.cells #[.int .i64 T0, .slice Bo2 R0.length do2] 24)).cell? ⟨w2.heap.size, 0, none⟩ = _ := (World.cell?_alloc_past _ _ _ (by omega)).trans vo1_0
  have Pvo1_1 : (w6.alloc (.cells #[.int .i64 T0, .slice Bo2 R0.length do2] 24)).cell? ⟨w2.heap.size, 1, none⟩ = _ := (World.cell?_alloc_past _ _ _ (by omega)).trans vo1_1
  go_wp2_with fail
  clear Pvo0_0 Pvo0_1 Pvo1_0 Pvo1_1
  refine (eqTour_any Bo2 Bo0 do2 do0 T0 R0 _ (o2.rowAt (by go_grown) (by omega)) (o0.rowAt (by go_grown) (by omega)) (by omega)).mono ?_
  rintro e w7 ⟨rfl, hb⟩
  have hB : Below w6.heap.size w6 w7 := Below.trans (by go_grown) (hb.mono (by first | omega | (simp only [World.size_alloc]; omega) | (simp; done) | (simp; omega)))
  have o0 := o0.below hB (by omega)
  have vo0_0 := (hB.cell (p := ⟨w1.heap.size, 0, none⟩) (by first | omega | (simp only [World.size_alloc]; omega) | (simp; done) | (simp; omega))).trans vo0_0
  have vo0_1 := (hB.cell (p := ⟨w1.heap.size, 1, none⟩) (by first | omega | (simp only [World.size_alloc]; omega) | (simp; done) | (simp; omega))).trans vo0_1
  have o1 := o1.below hB (by omega)
  have vo1_0 := (hB.cell (p := ⟨w2.heap.size, 0, none⟩) (by first | omega | (simp only [World.size_alloc]; omega) | (simp; done) | (simp; omega))).trans vo1_0
  have vo1_1 := (hB.cell (p := ⟨w2.heap.size, 1, none⟩) (by first | omega | (simp only [World.size_alloc]; omega) | (simp; done) | (simp; omega))).trans vo1_1
  have o2 := o2.below hB (by omega)
  have vo2_0 : w7.cell? ⟨w6.heap.size, 0, none⟩ = some (.int .i64 T0) := (hb.cell (p := ⟨w6.heap.size, 0, none⟩) (by first | omega | (simp only [World.size_alloc]; omega) | (simp; done) | (simp; omega))).trans (by go_simp)
  have vo2_1 : w7.cell? ⟨w6.heap.size, 1, none⟩ = some (.slice Bo2 R0.length do2) := (hb.cell (p := ⟨w6.heap.size, 1, none⟩) (by first | omega | (simp only [World.size_alloc]; omega) | (simp; done) | (simp; omega))).trans (by go_simp)
  have qw7 : w6.heap.size + 1 ≤ w7.heap.size := by have := hb.size; (try simp at this); omega
  have H0 := H0.trans (hB.mono (by omega))
  go_wp2_with fail
  refine (heldTour_any Bo1 do1 R0.length T0 1 _ (o1.rowAt (by go_grown) (by omega)) (by omega) (by omega) (by omega)).mono ?_
  rintro e w8 ⟨rfl, hb⟩
  have hB : Below w7.heap.size w7 w8 := Below.trans (by go_grown) (hb.mono (by first | omega | (simp only [World.size_alloc]; omega) | (simp; done) | (simp; omega)))
  have o0 := o0.below hB (by omega)
  have vo0_0 := (hB.cell (p := ⟨w1.heap.size, 0, none⟩) (by first | omega | (simp only [World.size_alloc]; omega) | (simp; done) | (simp; omega))).trans vo0_0
  have vo0_1 := (hB.cell (p := ⟨w1.heap.size, 1, none⟩) (by first | omega | (simp only [World.size_alloc]; omega) | (simp; done) | (simp; omega))).trans vo0_1
  have o1 := o1.below hB (by omega)
  have vo1_0 := (hB.cell (p := ⟨w2.heap.size, 0, none⟩) (by first | omega | (simp only [World.size_alloc]; omega) | (simp; done) | (simp; omega))).trans vo1_0
  have vo1_1 := (hB.cell (p := ⟨w2.heap.size, 1, none⟩) (by first | omega | (simp only [World.size_alloc]; omega) | (simp; done) | (simp; omega))).trans vo1_1
  have o2 := o2.below hB (by omega)
  have vo2_0 := (hB.cell (p := ⟨w6.heap.size, 0, none⟩) (by first | omega | (simp only [World.size_alloc]; omega) | (simp; done) | (simp; omega))).trans vo2_0
  have vo2_1 := (hB.cell (p := ⟨w6.heap.size, 1, none⟩) (by first | omega | (simp only [World.size_alloc]; omega) | (simp; done) | (simp; omega))).trans vo2_1
  have qw8 : w7.heap.size + 0 ≤ w8.heap.size := by have := hb.size; (try simp at this); omega
  have H0 := H0.trans (hB.mono (by omega))
  go_wp2
  go_ret
  exact ⟨rfl, H0⟩
end Go.Proofs.YtaocjjocncoahaaDoor
