/- The law FnExactTriangleWay, walked: it returns true. -/
import Derived.Test.YtaocjjocncoahaaDoorTStepI
import Derived.Test.YtaocjjocncoahaaDoorLib
namespace Go.Proofs.YtaocjjocncoahaaDoor
open Go.RowKit
set_option linter.unusedVariables false in
set_option linter.unusedSimpArgs false in
set_option maxHeartbeats 1600000 in
theorem walkFnExactTriangleWay (A0 : Option Addr) (c0 : Nat) (s0 : Int) (z0 : List Int) (A1 : Option Addr) (c1 : Nat) (s1 : Int) (z1 : List Int) (w : World) (h0 : z0.length ≤ 9223372036854775807) (a0 : Row w w.heap.size A0 (ints z0)) (h1 : z1.length ≤ 9223372036854775807) (a1 : Row w w.heap.size A1 (ints z1)) (hp : Pow w) :
    Calls Tryd.prog 5 #[.agg #[.int .i64 s0, .slice A0 z0.length c0], .agg #[.int .i64 s1, .slice A1 z1.length c1]] w fun e w' => e = .returned (.bool true) ∧ Below w.heap.size w w' := by
  by_cases g0 : 1048576 < z0.length
  · go_enter Tryd.func5, Tryd.ntmps5
    go_wp2_with fail; refine (szTour_out A0 c0 z0.length s0 (1048576) _ (by omega) (by omega) (by omega)).mono ?_; rintro e w00 ⟨rfl, hb00⟩
    go_wp2
    go_ret
    have k0 : Below w.heap.size w w00 := Below.trans (by go_grown) (hb00.mono (by first | omega | (simp only [World.size_alloc]; omega) | (simp; done) | (simp; omega)))
    exact ⟨rfl, k0⟩
  have g0 : z0.length ≤ 1048576 := by omega
  by_cases g1 : 1048576 < z0.length + z1.length
  · go_enter Tryd.func5, Tryd.ntmps5
    go_wp2_with fail; refine (szTour_in A0 c0 z0.length s0 (1048576) _ (by omega) (by omega)).mono ?_; rintro e w00 ⟨rfl, hb00⟩
    have y0_0 : w00.cell? ⟨w.heap.size, 0, none⟩ = some (.int .i64 s0) := (hb00.cell (p := ⟨w.heap.size, 0, none⟩) (by first | omega | (simp only [World.size_alloc]; omega) | (simp; done) | (simp; omega))).trans (by go_simp)
    have y0_1 : w00.cell? ⟨w.heap.size, 1, none⟩ = some (.slice A0 z0.length c0) := (hb00.cell (p := ⟨w.heap.size, 1, none⟩) (by first | omega | (simp only [World.size_alloc]; omega) | (simp; done) | (simp; omega))).trans (by go_simp)
    have y1_0 : w00.cell? ⟨w.heap.size + 1, 0, none⟩ = some (.int .i64 s1) := (hb00.cell (p := ⟨w.heap.size + 1, 0, none⟩) (by first | omega | (simp only [World.size_alloc]; omega) | (simp; done) | (simp; omega))).trans (by go_simp)
    have y1_1 : w00.cell? ⟨w.heap.size + 1, 1, none⟩ = some (.slice A1 z1.length c1) := (hb00.cell (p := ⟨w.heap.size + 1, 1, none⟩) (by first | omega | (simp only [World.size_alloc]; omega) | (simp; done) | (simp; omega))).trans (by go_simp)
    go_wp2_with fail; refine (szTour_out A1 c1 z1.length s1 (1048576 - (z0.length : Int)) _ (by omega) (by omega) (by omega)).mono ?_; rintro e w01 ⟨rfl, hb01⟩
    go_wp2
    go_ret
    have k0 : Below w.heap.size w w00 := Below.trans (by go_grown) (hb00.mono (by first | omega | (simp only [World.size_alloc]; omega) | (simp; done) | (simp; omega)))
    have k0 := k0.trans (hb01.mono (by have := k0.size; omega))
    exact ⟨rfl, k0⟩
  have g1 : z0.length + z1.length ≤ 1048576 := by omega
  obtain ⟨hR, hR2, hR3⟩ := rTriangleWay_len s0 z0 s1 z1
  have hbn : ((bTriangleWay s0 z0 s1 z1) != (bTriangleWay s0 z0 s1 z1)) = false := by simp
  go_enter Tryd.func5, Tryd.ntmps5
  go_wp2_with fail
  refine (szTour_in A0 c0 z0.length s0 (1048576) _ (by omega) (by omega)).mono ?_
  rintro e w1 ⟨rfl, hb⟩
  have hB : Below w.heap.size w w1 := Below.trans (by go_grown) (hb.mono (by first | omega | (simp only [World.size_alloc]; omega) | (simp; done) | (simp; omega)))
  have a0 := a0.below hB (by omega)
  have a1 := a1.below hB (by omega)
  have y0_0 : w1.cell? ⟨w.heap.size, 0, none⟩ = some (.int .i64 s0) := (hb.cell (p := ⟨w.heap.size, 0, none⟩) (by first | omega | (simp only [World.size_alloc]; omega) | (simp; done) | (simp; omega))).trans (by go_simp)
  have y0_1 : w1.cell? ⟨w.heap.size, 1, none⟩ = some (.slice A0 z0.length c0) := (hb.cell (p := ⟨w.heap.size, 1, none⟩) (by first | omega | (simp only [World.size_alloc]; omega) | (simp; done) | (simp; omega))).trans (by go_simp)
  have y1_0 : w1.cell? ⟨w.heap.size + 1, 0, none⟩ = some (.int .i64 s1) := (hb.cell (p := ⟨w.heap.size + 1, 0, none⟩) (by first | omega | (simp only [World.size_alloc]; omega) | (simp; done) | (simp; omega))).trans (by go_simp)
  have y1_1 : w1.cell? ⟨w.heap.size + 1, 1, none⟩ = some (.slice A1 z1.length c1) := (hb.cell (p := ⟨w.heap.size + 1, 1, none⟩) (by first | omega | (simp only [World.size_alloc]; omega) | (simp; done) | (simp; omega))).trans (by go_simp)
  have qw1 : w.heap.size + 2 ≤ w1.heap.size := by have := hb.size; (try simp at this); omega
  have H0 := hB
  go_wp2_with fail
  refine (szTour_in A1 c1 z1.length s1 (1048576 - (z0.length : Int)) _ (by omega) (by omega)).mono ?_
  rintro e w2 ⟨rfl, hb⟩
  have hB : Below w1.heap.size w1 w2 := Below.trans (by go_grown) (hb.mono (by first | omega | (simp only [World.size_alloc]; omega) | (simp; done) | (simp; omega)))
  have a0 := a0.below hB (by omega)
  have a1 := a1.below hB (by omega)
  have y0_0 := (hB.cell (p := ⟨w.heap.size, 0, none⟩) (by first | omega | (simp only [World.size_alloc]; omega) | (simp; done) | (simp; omega))).trans y0_0
  have y0_1 := (hB.cell (p := ⟨w.heap.size, 1, none⟩) (by first | omega | (simp only [World.size_alloc]; omega) | (simp; done) | (simp; omega))).trans y0_1
  have y1_0 := (hB.cell (p := ⟨w.heap.size + 1, 0, none⟩) (by first | omega | (simp only [World.size_alloc]; omega) | (simp; done) | (simp; omega))).trans y1_0
  have y1_1 := (hB.cell (p := ⟨w.heap.size + 1, 1, none⟩) (by first | omega | (simp only [World.size_alloc]; omega) | (simp; done) | (simp; omega))).trans y1_1
  have qw2 : w1.heap.size + 0 ≤ w2.heap.size := by have := hb.size; (try simp at this); omega
  have H0 := H0.trans (hB.mono (by omega))
  go_wp2_with fail
  have hR : Below w2.heap.size w2 w2 := Below.refl _ _
  have m0_0 := y0_0
  have m0_1 := y0_1
  have m1_0 := y1_0
  have m1_1 := y1_1
  go_region_held3 (fun w' => Below w2.heap.size w2 w' ∧ w'.cell? ⟨w.heap.size, 0, none⟩ = some (.int .i64 s0) ∧ w'.cell? ⟨w.heap.size, 1, none⟩ = some (.slice A0 z0.length c0) ∧ w'.cell? ⟨w.heap.size + 1, 0, none⟩ = some (.int .i64 s1) ∧ w'.cell? ⟨w.heap.size + 1, 1, none⟩ = some (.slice A1 z1.length c1))
    (first | exact ⟨hR, m0_0, m0_1, m1_0, m1_1⟩ | exact ⟨hR.drew, m0_0, m0_1, m1_0, m1_1⟩)
    (first
      | (go_at_call 13; (with_reducible refine (toTour_any A0 c0 s0 z0 _ (a0.rowAt (by first | exact hR | exact hR.drew) (by omega)) (by omega)).mono ?_); rintro e w3 ⟨Br0, dr0, rfl, r0, hb⟩; have t0 := Nat.le_refl w3.heap.size; have hR : Below w2.heap.size w2 w3 := (by first | exact hR.trans (hb.mono (by have := hR.size; omega)) | exact hR.drew.trans (hb.mono (by have := hR.drew.size; omega))); have m0_0 := (hR.cell (p := ⟨w.heap.size, 0, none⟩) (by first | omega | (simp only [World.size_alloc]; omega) | (simp; done) | (simp; omega))).trans y0_0; have m0_1 := (hR.cell (p := ⟨w.heap.size, 1, none⟩) (by first | omega | (simp only [World.size_alloc]; omega) | (simp; done) | (simp; omega))).trans y0_1; have m1_0 := (hR.cell (p := ⟨w.heap.size + 1, 0, none⟩) (by first | omega | (simp only [World.size_alloc]; omega) | (simp; done) | (simp; omega))).trans y1_0; have m1_1 := (hR.cell (p := ⟨w.heap.size + 1, 1, none⟩) (by first | omega | (simp only [World.size_alloc]; omega) | (simp; done) | (simp; omega))).trans y1_1)
      | (go_at_call 13; (with_reducible refine (toTour_any A1 c1 s1 z1 _ (a1.rowAt (by first | exact hR | exact hR.drew) (by omega)) (by omega)).mono ?_); rintro e w4 ⟨Br1, dr1, rfl, r1, hb⟩; have t1 : w3.heap.size ≤ w4.heap.size := hb.size; have hR : Below w2.heap.size w2 w4 := (by first | exact hR.trans (hb.mono (by have := hR.size; omega)) | exact hR.drew.trans (hb.mono (by have := hR.drew.size; omega))); have m0_0 := (hR.cell (p := ⟨w.heap.size, 0, none⟩) (by first | omega | (simp only [World.size_alloc]; omega) | (simp; done) | (simp; omega))).trans y0_0; have m0_1 := (hR.cell (p := ⟨w.heap.size, 1, none⟩) (by first | omega | (simp only [World.size_alloc]; omega) | (simp; done) | (simp; omega))).trans y0_1; have m1_0 := (hR.cell (p := ⟨w.heap.size + 1, 0, none⟩) (by first | omega | (simp only [World.size_alloc]; omega) | (simp; done) | (simp; omega))).trans y1_0; have m1_1 := (hR.cell (p := ⟨w.heap.size + 1, 1, none⟩) (by first | omega | (simp only [World.size_alloc]; omega) | (simp; done) | (simp; omega))).trans y1_1; have r0 := r0.below hb (by omega))
      | (go_at_call 15; refine (sTriangleWay_any Br0 dr0 s0 z0 Br1 dr1 s1 z1 _ (r0.rowAt (Below.refl _ _) (by omega)) (by omega) (r1.rowAt (Below.refl _ _) (by omega)) (by omega)).mono ?_; rintro e w5 ⟨Bo0, do0, rfl, o0, hb⟩; have qprev := hR.size; have hR : Below w2.heap.size w2 w5 := (by first | exact hR.trans (hb.mono (by have := hR.size; omega)) | exact hR.drew.trans (hb.mono (by have := hR.drew.size; omega))); have m0_0 := (hR.cell (p := ⟨w.heap.size, 0, none⟩) (by first | omega | (simp only [World.size_alloc]; omega) | (simp; done) | (simp; omega))).trans y0_0; have m0_1 := (hR.cell (p := ⟨w.heap.size, 1, none⟩) (by first | omega | (simp only [World.size_alloc]; omega) | (simp; done) | (simp; omega))).trans y0_1; have m1_0 := (hR.cell (p := ⟨w.heap.size + 1, 0, none⟩) (by first | omega | (simp only [World.size_alloc]; omega) | (simp; done) | (simp; omega))).trans y1_0; have m1_1 := (hR.cell (p := ⟨w.heap.size + 1, 1, none⟩) (by first | omega | (simp only [World.size_alloc]; omega) | (simp; done) | (simp; omega))).trans y1_1))
  clear m0_0 m0_1 m1_0 m1_1
  clear hb r0 r1
  have hB : Below w2.heap.size w2 w5 := Below.trans (by go_grown) (hR.mono (by first | omega | (simp only [World.size_alloc]; omega) | (simp; done) | (simp; omega)))
  have a0 := a0.below hB (by omega)
  have a1 := a1.below hB (by omega)
  have y0_0 := (hB.cell (p := ⟨w.heap.size, 0, none⟩) (by first | omega | (simp only [World.size_alloc]; omega) | (simp; done) | (simp; omega))).trans y0_0
  have y0_1 := (hB.cell (p := ⟨w.heap.size, 1, none⟩) (by first | omega | (simp only [World.size_alloc]; omega) | (simp; done) | (simp; omega))).trans y0_1
  have y1_0 := (hB.cell (p := ⟨w.heap.size + 1, 0, none⟩) (by first | omega | (simp only [World.size_alloc]; omega) | (simp; done) | (simp; omega))).trans y1_0
  have y1_1 := (hB.cell (p := ⟨w.heap.size + 1, 1, none⟩) (by first | omega | (simp only [World.size_alloc]; omega) | (simp; done) | (simp; omega))).trans y1_1
  have qw5 : w2.heap.size + 0 ≤ w5.heap.size := by have := hR.size; (try simp at this); omega
  have H0 := H0.trans (hB.mono (by omega))
  have o0 := o0.mono (lo' := w2.heap.size) (by omega) (Nat.le_refl _)
  go_wp2_with fail
  refine (toTour_any A0 c0 s0 z0 _ (a0.rowAt (by go_grown) (by omega)) (by omega)).mono ?_
  rintro e w6 ⟨Be0, de0, rfl, e0, hb⟩
  have hB : Below w5.heap.size w5 w6 := Below.trans (by go_grown) (hb.mono (by first | omega | (simp only [World.size_alloc]; omega) | (simp; done) | (simp; omega)))
  have a0 := a0.below hB (by omega)
  have a1 := a1.below hB (by omega)
  have y0_0 := (hB.cell (p := ⟨w.heap.size, 0, none⟩) (by first | omega | (simp only [World.size_alloc]; omega) | (simp; done) | (simp; omega))).trans y0_0
  have y0_1 := (hB.cell (p := ⟨w.heap.size, 1, none⟩) (by first | omega | (simp only [World.size_alloc]; omega) | (simp; done) | (simp; omega))).trans y0_1
  have y1_0 := (hB.cell (p := ⟨w.heap.size + 1, 0, none⟩) (by first | omega | (simp only [World.size_alloc]; omega) | (simp; done) | (simp; omega))).trans y1_0
  have y1_1 := (hB.cell (p := ⟨w.heap.size + 1, 1, none⟩) (by first | omega | (simp only [World.size_alloc]; omega) | (simp; done) | (simp; omega))).trans y1_1
  have o0 := o0.below hB (by omega)
  have qw6 : w5.heap.size + 0 ≤ w6.heap.size := by have := hb.size; (try simp at this); omega
  have H0 := H0.trans (hB.mono (by omega))
  have e0 := e0.mono (lo' := w5.heap.size + 0) (by first | omega | (simp only [World.size_alloc]; omega) | (simp; done) | (simp; omega)) (Nat.le_refl _)
  have Py0_0 : (w6.alloc (.cells #[.int .i64 s0, .slice Be0 z0.length de0] 24)).cell? ⟨w.heap.size, 0, none⟩ = _ := (World.cell?_alloc_past _ _ _ (by omega)).trans y0_0
  have Py0_1 : (w6.alloc (.cells #[.int .i64 s0, .slice Be0 z0.length de0] 24)).cell? ⟨w.heap.size, 1, none⟩ = _ := (World.cell?_alloc_past _ _ _ (by omega)).trans y0_1
  have Py1_0 : (w6.alloc (.cells #[.int .i64 s0, .slice Be0 z0.length de0] 24)).cell? ⟨w.heap.size + 1, 0, none⟩ = _ := (World.cell?_alloc_past _ _ _ (by omega)).trans y1_0
  have Py1_1 : (w6.alloc (.cells #[.int .i64 s0, .slice Be0 z0.length de0] 24)).cell? ⟨w.heap.size + 1, 1, none⟩ = _ := (World.cell?_alloc_past _ _ _ (by omega)).trans y1_1
  go_wp2_with fail
  clear Py0_0 Py0_1 Py1_0 Py1_1
  refine (toTour_any A1 c1 s1 z1 _ (a1.rowAt (by go_grown) (by omega)) (by omega)).mono ?_
  rintro e w7 ⟨Be1, de1, rfl, e1, hb⟩
  have hB : Below w6.heap.size w6 w7 := Below.trans (by go_grown) (hb.mono (by first | omega | (simp only [World.size_alloc]; omega) | (simp; done) | (simp; omega)))
  have a0 := a0.below hB (by omega)
  have a1 := a1.below hB (by omega)
  have y0_0 := (hB.cell (p := ⟨w.heap.size, 0, none⟩) (by first | omega | (simp only [World.size_alloc]; omega) | (simp; done) | (simp; omega))).trans y0_0
  have y0_1 := (hB.cell (p := ⟨w.heap.size, 1, none⟩) (by first | omega | (simp only [World.size_alloc]; omega) | (simp; done) | (simp; omega))).trans y0_1
  have y1_0 := (hB.cell (p := ⟨w.heap.size + 1, 0, none⟩) (by first | omega | (simp only [World.size_alloc]; omega) | (simp; done) | (simp; omega))).trans y1_0
  have y1_1 := (hB.cell (p := ⟨w.heap.size + 1, 1, none⟩) (by first | omega | (simp only [World.size_alloc]; omega) | (simp; done) | (simp; omega))).trans y1_1
  have o0 := o0.below hB (by omega)
  have e0 := e0.below hB (by omega)
  have ve0_0 : w7.cell? ⟨w6.heap.size, 0, none⟩ = some (.int .i64 s0) := (hb.cell (p := ⟨w6.heap.size, 0, none⟩) (by first | omega | (simp only [World.size_alloc]; omega) | (simp; done) | (simp; omega))).trans (by go_simp)
  have ve0_1 : w7.cell? ⟨w6.heap.size, 1, none⟩ = some (.slice Be0 z0.length de0) := (hb.cell (p := ⟨w6.heap.size, 1, none⟩) (by first | omega | (simp only [World.size_alloc]; omega) | (simp; done) | (simp; omega))).trans (by go_simp)
  have qw7 : w6.heap.size + 1 ≤ w7.heap.size := by have := hb.size; (try simp at this); omega
  have H0 := H0.trans (hB.mono (by omega))
  have e1 := e1.mono (lo' := w6.heap.size + 1) (by first | omega | (simp only [World.size_alloc]; omega) | (simp; done) | (simp; omega)) (Nat.le_refl _)
  have Py0_0 : (w7.alloc (.cells #[.int .i64 s1, .slice Be1 z1.length de1] 24)).cell? ⟨w.heap.size, 0, none⟩ = _ := (World.cell?_alloc_past _ _ _ (by omega)).trans y0_0
  have Py0_1 : (w7.alloc (.cells #[.int .i64 s1, .slice Be1 z1.length de1] 24)).cell? ⟨w.heap.size, 1, none⟩ = _ := (World.cell?_alloc_past _ _ _ (by omega)).trans y0_1
  have Py1_0 : (w7.alloc (.cells #[.int .i64 s1, .slice Be1 z1.length de1] 24)).cell? ⟨w.heap.size + 1, 0, none⟩ = _ := (World.cell?_alloc_past _ _ _ (by omega)).trans y1_0
  have Py1_1 : (w7.alloc (.cells #[.int .i64 s1, .slice Be1 z1.length de1] 24)).cell? ⟨w.heap.size + 1, 1, none⟩ = _ := (World.cell?_alloc_past _ _ _ (by omega)).trans y1_1
  have Pve0_0 : (w7.alloc (.cells #[.int .i64 s1, .slice Be1 z1.length de1] 24)).cell? ⟨w6.heap.size, 0, none⟩ = _ := (World.cell?_alloc_past _ _ _ (by omega)).trans ve0_0
  have Pve0_1 : (w7.alloc (.cells #[.int .i64 s1, .slice Be1 z1.length de1] 24)).cell? ⟨w6.heap.size, 1, none⟩ = _ := (World.cell?_alloc_past _ _ _ (by omega)).trans ve0_1
  go_wp2_with fail
  clear Py0_0 Py0_1 Py1_0 Py1_1 Pve0_0 Pve0_1
  refine (iTriangleWay_any Be0 de0 s0 z0 Be1 de1 s1 z1 _ (e0.rowAt (by go_grown) (by omega)) (by omega) (e1.rowAt (by go_grown) (by omega)) (by omega) ((hp.on H0).on (by go_grown))).mono ?_
  rintro e w8 ⟨Bo1, do1, rfl, o1, hb⟩
  have hB : Below w7.heap.size w7 w8 := Below.trans (by go_grown) (hb.mono (by first | omega | (simp only [World.size_alloc]; omega) | (simp; done) | (simp; omega)))
  have a0 := a0.below hB (by omega)
  have a1 := a1.below hB (by omega)
  have y0_0 := (hB.cell (p := ⟨w.heap.size, 0, none⟩) (by first | omega | (simp only [World.size_alloc]; omega) | (simp; done) | (simp; omega))).trans y0_0
  have y0_1 := (hB.cell (p := ⟨w.heap.size, 1, none⟩) (by first | omega | (simp only [World.size_alloc]; omega) | (simp; done) | (simp; omega))).trans y0_1
  have y1_0 := (hB.cell (p := ⟨w.heap.size + 1, 0, none⟩) (by first | omega | (simp only [World.size_alloc]; omega) | (simp; done) | (simp; omega))).trans y1_0
  have y1_1 := (hB.cell (p := ⟨w.heap.size + 1, 1, none⟩) (by first | omega | (simp only [World.size_alloc]; omega) | (simp; done) | (simp; omega))).trans y1_1
  have o0 := o0.below hB (by omega)
  have e0 := e0.below hB (by omega)
  have ve0_0 := (hB.cell (p := ⟨w6.heap.size, 0, none⟩) (by first | omega | (simp only [World.size_alloc]; omega) | (simp; done) | (simp; omega))).trans ve0_0
  have ve0_1 := (hB.cell (p := ⟨w6.heap.size, 1, none⟩) (by first | omega | (simp only [World.size_alloc]; omega) | (simp; done) | (simp; omega))).trans ve0_1
  have e1 := e1.below hB (by omega)
  have ve1_0 : w8.cell? ⟨w7.heap.size, 0, none⟩ = some (.int .i64 s1) := (hb.cell (p := ⟨w7.heap.size, 0, none⟩) (by first | omega | (simp only [World.size_alloc]; omega) | (simp; done) | (simp; omega))).trans (by go_simp)
  have ve1_1 : w8.cell? ⟨w7.heap.size, 1, none⟩ = some (.slice Be1 z1.length de1) := (hb.cell (p := ⟨w7.heap.size, 1, none⟩) (by first | omega | (simp only [World.size_alloc]; omega) | (simp; done) | (simp; omega))).trans (by go_simp)
  have qw8 : w7.heap.size + 1 ≤ w8.heap.size := by have := hb.size; (try simp at this); omega
  have H0 := H0.trans (hB.mono (by omega))
  have o1 := o1.mono (lo' := w7.heap.size + 1) (by first | omega | (simp only [World.size_alloc]; omega) | (simp; done) | (simp; omega)) (Nat.le_refl _)
  go_wp2_with fail
  refine (eqIntSS_any Bo1 Bo0 do1 do0 (rTriangleWay s0 z0 s1 z1) _ (o1.rowAt (by go_grown) (by omega)) (o0.rowAt (by go_grown) (by omega)) (by omega) hR2).mono ?_
  rintro e w9 ⟨rfl, hb⟩
  have hB : Below w8.heap.size w8 w9 := Below.trans (by go_grown) (hb.mono (by first | omega | (simp only [World.size_alloc]; omega) | (simp; done) | (simp; omega)))
  have a0 := a0.below hB (by omega)
  have a1 := a1.below hB (by omega)
  have y0_0 := (hB.cell (p := ⟨w.heap.size, 0, none⟩) (by first | omega | (simp only [World.size_alloc]; omega) | (simp; done) | (simp; omega))).trans y0_0
  have y0_1 := (hB.cell (p := ⟨w.heap.size, 1, none⟩) (by first | omega | (simp only [World.size_alloc]; omega) | (simp; done) | (simp; omega))).trans y0_1
  have y1_0 := (hB.cell (p := ⟨w.heap.size + 1, 0, none⟩) (by first | omega | (simp only [World.size_alloc]; omega) | (simp; done) | (simp; omega))).trans y1_0
  have y1_1 := (hB.cell (p := ⟨w.heap.size + 1, 1, none⟩) (by first | omega | (simp only [World.size_alloc]; omega) | (simp; done) | (simp; omega))).trans y1_1
  have o0 := o0.below hB (by omega)
  have e0 := e0.below hB (by omega)
  have ve0_0 := (hB.cell (p := ⟨w6.heap.size, 0, none⟩) (by first | omega | (simp only [World.size_alloc]; omega) | (simp; done) | (simp; omega))).trans ve0_0
  have ve0_1 := (hB.cell (p := ⟨w6.heap.size, 1, none⟩) (by first | omega | (simp only [World.size_alloc]; omega) | (simp; done) | (simp; omega))).trans ve0_1
  have e1 := e1.below hB (by omega)
  have ve1_0 := (hB.cell (p := ⟨w7.heap.size, 0, none⟩) (by first | omega | (simp only [World.size_alloc]; omega) | (simp; done) | (simp; omega))).trans ve1_0
  have ve1_1 := (hB.cell (p := ⟨w7.heap.size, 1, none⟩) (by first | omega | (simp only [World.size_alloc]; omega) | (simp; done) | (simp; omega))).trans ve1_1
  have o1 := o1.below hB (by omega)
  have qw9 : w8.heap.size + 0 ≤ w9.heap.size := by have := hb.size; (try simp at this); omega
  have H0 := H0.trans (hB.mono (by omega))
  go_wp2_with fail
  have hR : Below w9.heap.size w9 w9 := Below.refl _ _
  have n0 := ve0_0
  have n1 := ve0_1
  have n2 := y0_0
  have n3 := y0_1
  go_region_held3 (fun w' => Below w9.heap.size w9 w' ∧ w'.cell? ⟨w6.heap.size, 0, none⟩ = some (.int .i64 s0) ∧ w'.cell? ⟨w6.heap.size, 1, none⟩ = some (.slice Be0 z0.length de0) ∧ w'.cell? ⟨w.heap.size, 0, none⟩ = some (.int .i64 s0) ∧ w'.cell? ⟨w.heap.size, 1, none⟩ = some (.slice A0 z0.length c0))
    (first | exact ⟨hR, n0, n1, n2, n3⟩ | exact ⟨hR.drew, n0, n1, n2, n3⟩)
    (first
      | (go_at_call 13; refine (toTour_any A0 c0 s0 z0 _ (a0.rowAt (by first | exact hR | exact hR.drew) (by omega)) (by omega)).mono ?_; rintro e wf0 ⟨Bf0, df0, rfl, f0, hb⟩; have hR : Below w9.heap.size w9 wf0 := (by first | exact hR.trans (hb.mono (by have := hR.size; omega)) | exact hR.drew.trans (hb.mono (by have := hR.drew.size; omega))); have n0 := (hR.cell (p := ⟨w6.heap.size, 0, none⟩) (by first | omega | (simp only [World.size_alloc]; omega) | (simp; done) | (simp; omega))).trans ve0_0; have n1 := (hR.cell (p := ⟨w6.heap.size, 1, none⟩) (by first | omega | (simp only [World.size_alloc]; omega) | (simp; done) | (simp; omega))).trans ve0_1; have n2 := (hR.cell (p := ⟨w.heap.size, 0, none⟩) (by first | omega | (simp only [World.size_alloc]; omega) | (simp; done) | (simp; omega))).trans y0_0; have n3 := (hR.cell (p := ⟨w.heap.size, 1, none⟩) (by first | omega | (simp only [World.size_alloc]; omega) | (simp; done) | (simp; omega))).trans y0_1)
      | (go_at_call 8; refine (eqTour_any Be0 Bf0 de0 df0 s0 z0 _ (e0.rowAt (by first | exact hR | exact hR.drew) (by omega)) (f0.rowAt (by first | exact Below.refl _ _ | exact (Below.refl _ _).drew) (Nat.le_refl _)) (by omega)).mono ?_; rintro e w10 ⟨rfl, hb⟩; have hR : Below w9.heap.size w9 w10 := (by first | exact hR.trans (hb.mono (by have := hR.size; omega)) | exact hR.drew.trans (hb.mono (by have := hR.drew.size; omega))); have n0 := (hR.cell (p := ⟨w6.heap.size, 0, none⟩) (by first | omega | (simp only [World.size_alloc]; omega) | (simp; done) | (simp; omega))).trans ve0_0; have n1 := (hR.cell (p := ⟨w6.heap.size, 1, none⟩) (by first | omega | (simp only [World.size_alloc]; omega) | (simp; done) | (simp; omega))).trans ve0_1; have n2 := (hR.cell (p := ⟨w.heap.size, 0, none⟩) (by first | omega | (simp only [World.size_alloc]; omega) | (simp; done) | (simp; omega))).trans y0_0; have n3 := (hR.cell (p := ⟨w.heap.size, 1, none⟩) (by first | omega | (simp only [World.size_alloc]; omega) | (simp; done) | (simp; omega))).trans y0_1))
  clear n0 n1 n2 n3 hb f0
  have hB : Below w9.heap.size w9 w10 := Below.trans (by go_grown) (hR.mono (by first | omega | (simp only [World.size_alloc]; omega) | (simp; done) | (simp; omega)))
  have a0 := a0.below hB (by omega)
  have a1 := a1.below hB (by omega)
  have y0_0 := (hB.cell (p := ⟨w.heap.size, 0, none⟩) (by first | omega | (simp only [World.size_alloc]; omega) | (simp; done) | (simp; omega))).trans y0_0
  have y0_1 := (hB.cell (p := ⟨w.heap.size, 1, none⟩) (by first | omega | (simp only [World.size_alloc]; omega) | (simp; done) | (simp; omega))).trans y0_1
  have y1_0 := (hB.cell (p := ⟨w.heap.size + 1, 0, none⟩) (by first | omega | (simp only [World.size_alloc]; omega) | (simp; done) | (simp; omega))).trans y1_0
  have y1_1 := (hB.cell (p := ⟨w.heap.size + 1, 1, none⟩) (by first | omega | (simp only [World.size_alloc]; omega) | (simp; done) | (simp; omega))).trans y1_1
  have o0 := o0.below hB (by omega)
  have e0 := e0.below hB (by omega)
  have ve0_0 := (hB.cell (p := ⟨w6.heap.size, 0, none⟩) (by first | omega | (simp only [World.size_alloc]; omega) | (simp; done) | (simp; omega))).trans ve0_0
  have ve0_1 := (hB.cell (p := ⟨w6.heap.size, 1, none⟩) (by first | omega | (simp only [World.size_alloc]; omega) | (simp; done) | (simp; omega))).trans ve0_1
  have e1 := e1.below hB (by omega)
  have ve1_0 := (hB.cell (p := ⟨w7.heap.size, 0, none⟩) (by first | omega | (simp only [World.size_alloc]; omega) | (simp; done) | (simp; omega))).trans ve1_0
  have ve1_1 := (hB.cell (p := ⟨w7.heap.size, 1, none⟩) (by first | omega | (simp only [World.size_alloc]; omega) | (simp; done) | (simp; omega))).trans ve1_1
  have o1 := o1.below hB (by omega)
  have qw10 : w9.heap.size + 0 ≤ w10.heap.size := by have := hR.size; (try simp at this); omega
  have H0 := H0.trans (hB.mono (by omega))
  go_wp2_with fail
  have hR : Below w10.heap.size w10 w10 := Below.refl _ _
  have n0 := ve1_0
  have n1 := ve1_1
  have n2 := y1_0
  have n3 := y1_1
  go_region_held3 (fun w' => Below w10.heap.size w10 w' ∧ w'.cell? ⟨w7.heap.size, 0, none⟩ = some (.int .i64 s1) ∧ w'.cell? ⟨w7.heap.size, 1, none⟩ = some (.slice Be1 z1.length de1) ∧ w'.cell? ⟨w.heap.size + 1, 0, none⟩ = some (.int .i64 s1) ∧ w'.cell? ⟨w.heap.size + 1, 1, none⟩ = some (.slice A1 z1.length c1))
    (first | exact ⟨hR, n0, n1, n2, n3⟩ | exact ⟨hR.drew, n0, n1, n2, n3⟩)
    (first
      | (go_at_call 13; refine (toTour_any A1 c1 s1 z1 _ (a1.rowAt (by first | exact hR | exact hR.drew) (by omega)) (by omega)).mono ?_; rintro e wf1 ⟨Bf1, df1, rfl, f1, hb⟩; have hR : Below w10.heap.size w10 wf1 := (by first | exact hR.trans (hb.mono (by have := hR.size; omega)) | exact hR.drew.trans (hb.mono (by have := hR.drew.size; omega))); have n0 := (hR.cell (p := ⟨w7.heap.size, 0, none⟩) (by first | omega | (simp only [World.size_alloc]; omega) | (simp; done) | (simp; omega))).trans ve1_0; have n1 := (hR.cell (p := ⟨w7.heap.size, 1, none⟩) (by first | omega | (simp only [World.size_alloc]; omega) | (simp; done) | (simp; omega))).trans ve1_1; have n2 := (hR.cell (p := ⟨w.heap.size + 1, 0, none⟩) (by first | omega | (simp only [World.size_alloc]; omega) | (simp; done) | (simp; omega))).trans y1_0; have n3 := (hR.cell (p := ⟨w.heap.size + 1, 1, none⟩) (by first | omega | (simp only [World.size_alloc]; omega) | (simp; done) | (simp; omega))).trans y1_1)
      | (go_at_call 8; refine (eqTour_any Be1 Bf1 de1 df1 s1 z1 _ (e1.rowAt (by first | exact hR | exact hR.drew) (by omega)) (f1.rowAt (by first | exact Below.refl _ _ | exact (Below.refl _ _).drew) (Nat.le_refl _)) (by omega)).mono ?_; rintro e w11 ⟨rfl, hb⟩; have hR : Below w10.heap.size w10 w11 := (by first | exact hR.trans (hb.mono (by have := hR.size; omega)) | exact hR.drew.trans (hb.mono (by have := hR.drew.size; omega))); have n0 := (hR.cell (p := ⟨w7.heap.size, 0, none⟩) (by first | omega | (simp only [World.size_alloc]; omega) | (simp; done) | (simp; omega))).trans ve1_0; have n1 := (hR.cell (p := ⟨w7.heap.size, 1, none⟩) (by first | omega | (simp only [World.size_alloc]; omega) | (simp; done) | (simp; omega))).trans ve1_1; have n2 := (hR.cell (p := ⟨w.heap.size + 1, 0, none⟩) (by first | omega | (simp only [World.size_alloc]; omega) | (simp; done) | (simp; omega))).trans y1_0; have n3 := (hR.cell (p := ⟨w.heap.size + 1, 1, none⟩) (by first | omega | (simp only [World.size_alloc]; omega) | (simp; done) | (simp; omega))).trans y1_1))
  clear n0 n1 n2 n3 hb f1
  have hB : Below w10.heap.size w10 w11 := Below.trans (by go_grown) (hR.mono (by first | omega | (simp only [World.size_alloc]; omega) | (simp; done) | (simp; omega)))
  have a0 := a0.below hB (by omega)
  have a1 := a1.below hB (by omega)
  have y0_0 := (hB.cell (p := ⟨w.heap.size, 0, none⟩) (by first | omega | (simp only [World.size_alloc]; omega) | (simp; done) | (simp; omega))).trans y0_0
  have y0_1 := (hB.cell (p := ⟨w.heap.size, 1, none⟩) (by first | omega | (simp only [World.size_alloc]; omega) | (simp; done) | (simp; omega))).trans y0_1
  have y1_0 := (hB.cell (p := ⟨w.heap.size + 1, 0, none⟩) (by first | omega | (simp only [World.size_alloc]; omega) | (simp; done) | (simp; omega))).trans y1_0
  have y1_1 := (hB.cell (p := ⟨w.heap.size + 1, 1, none⟩) (by first | omega | (simp only [World.size_alloc]; omega) | (simp; done) | (simp; omega))).trans y1_1
  have o0 := o0.below hB (by omega)
  have e0 := e0.below hB (by omega)
  have ve0_0 := (hB.cell (p := ⟨w6.heap.size, 0, none⟩) (by first | omega | (simp only [World.size_alloc]; omega) | (simp; done) | (simp; omega))).trans ve0_0
  have ve0_1 := (hB.cell (p := ⟨w6.heap.size, 1, none⟩) (by first | omega | (simp only [World.size_alloc]; omega) | (simp; done) | (simp; omega))).trans ve0_1
  have e1 := e1.below hB (by omega)
  have ve1_0 := (hB.cell (p := ⟨w7.heap.size, 0, none⟩) (by first | omega | (simp only [World.size_alloc]; omega) | (simp; done) | (simp; omega))).trans ve1_0
  have ve1_1 := (hB.cell (p := ⟨w7.heap.size, 1, none⟩) (by first | omega | (simp only [World.size_alloc]; omega) | (simp; done) | (simp; omega))).trans ve1_1
  have o1 := o1.below hB (by omega)
  have qw11 : w10.heap.size + 0 ≤ w11.heap.size := by have := hR.size; (try simp at this); omega
  have H0 := H0.trans (hB.mono (by omega))
  go_wp2_with fail
  refine (markTour_any Be0 de0 s0 z0 1 _ _ _ e0 (by omega) (by omega) (by omega) (by omega)).mono ?_
  rintro e w12 ⟨rfl, me0, hg⟩
  clear e0
  have e0 := me0
  clear me0
  have a0 := a0.rowOnly hg (by omega) (by omega)
  have a1 := a1.rowOnly hg (by omega) (by omega)
  have y0_0 := (hg.cell (p := ⟨w.heap.size, 0, none⟩) (by first | omega | (simp only [World.size_alloc]; omega) | (simp; done) | (simp; omega)) (by first | (simp; done) | (simp; omega))).trans y0_0
  have y0_1 := (hg.cell (p := ⟨w.heap.size, 1, none⟩) (by first | omega | (simp only [World.size_alloc]; omega) | (simp; done) | (simp; omega)) (by first | (simp; done) | (simp; omega))).trans y0_1
  have y1_0 := (hg.cell (p := ⟨w.heap.size + 1, 0, none⟩) (by first | omega | (simp only [World.size_alloc]; omega) | (simp; done) | (simp; omega)) (by first | (simp; done) | (simp; omega))).trans y1_0
  have y1_1 := (hg.cell (p := ⟨w.heap.size + 1, 1, none⟩) (by first | omega | (simp only [World.size_alloc]; omega) | (simp; done) | (simp; omega)) (by first | (simp; done) | (simp; omega))).trans y1_1
  have o0 := o0.only hg (by omega) (by omega)
  have ve0_0 := (hg.cell (p := ⟨w6.heap.size, 0, none⟩) (by first | omega | (simp only [World.size_alloc]; omega) | (simp; done) | (simp; omega)) (by first | (simp; done) | (simp; omega))).trans ve0_0
  have ve0_1 := (hg.cell (p := ⟨w6.heap.size, 1, none⟩) (by first | omega | (simp only [World.size_alloc]; omega) | (simp; done) | (simp; omega)) (by first | (simp; done) | (simp; omega))).trans ve0_1
  have e1 := e1.only hg (by omega) (by omega)
  have ve1_0 := (hg.cell (p := ⟨w7.heap.size, 0, none⟩) (by first | omega | (simp only [World.size_alloc]; omega) | (simp; done) | (simp; omega)) (by first | (simp; done) | (simp; omega))).trans ve1_0
  have ve1_1 := (hg.cell (p := ⟨w7.heap.size, 1, none⟩) (by first | omega | (simp only [World.size_alloc]; omega) | (simp; done) | (simp; omega)) (by first | (simp; done) | (simp; omega))).trans ve1_1
  have o1 := o1.only hg (by omega) (by omega)
  have qw12 : w11.heap.size ≤ w12.heap.size := hg.size
  have H0 := below_only H0 hg (by omega) (by omega)
  go_wp2_with fail
  refine (markTour_any Be1 de1 s1 z1 _ _ _ _ e1 (by omega) (by omega) (by omega) (by omega)).mono ?_
  rintro e w13 ⟨rfl, me1, hg⟩
  clear e1
  have e1 := me1
  clear me1
  have a0 := a0.rowOnly hg (by omega) (by omega)
  have a1 := a1.rowOnly hg (by omega) (by omega)
  have y0_0 := (hg.cell (p := ⟨w.heap.size, 0, none⟩) (by first | omega | (simp only [World.size_alloc]; omega) | (simp; done) | (simp; omega)) (by first | (simp; done) | (simp; omega))).trans y0_0
  have y0_1 := (hg.cell (p := ⟨w.heap.size, 1, none⟩) (by first | omega | (simp only [World.size_alloc]; omega) | (simp; done) | (simp; omega)) (by first | (simp; done) | (simp; omega))).trans y0_1
  have y1_0 := (hg.cell (p := ⟨w.heap.size + 1, 0, none⟩) (by first | omega | (simp only [World.size_alloc]; omega) | (simp; done) | (simp; omega)) (by first | (simp; done) | (simp; omega))).trans y1_0
  have y1_1 := (hg.cell (p := ⟨w.heap.size + 1, 1, none⟩) (by first | omega | (simp only [World.size_alloc]; omega) | (simp; done) | (simp; omega)) (by first | (simp; done) | (simp; omega))).trans y1_1
  have o0 := o0.only hg (by omega) (by omega)
  have e0 := e0.only hg (by omega) (by omega)
  have ve0_0 := (hg.cell (p := ⟨w6.heap.size, 0, none⟩) (by first | omega | (simp only [World.size_alloc]; omega) | (simp; done) | (simp; omega)) (by first | (simp; done) | (simp; omega))).trans ve0_0
  have ve0_1 := (hg.cell (p := ⟨w6.heap.size, 1, none⟩) (by first | omega | (simp only [World.size_alloc]; omega) | (simp; done) | (simp; omega)) (by first | (simp; done) | (simp; omega))).trans ve0_1
  have ve1_0 := (hg.cell (p := ⟨w7.heap.size, 0, none⟩) (by first | omega | (simp only [World.size_alloc]; omega) | (simp; done) | (simp; omega)) (by first | (simp; done) | (simp; omega))).trans ve1_0
  have ve1_1 := (hg.cell (p := ⟨w7.heap.size, 1, none⟩) (by first | omega | (simp only [World.size_alloc]; omega) | (simp; done) | (simp; omega)) (by first | (simp; done) | (simp; omega))).trans ve1_1
  have o1 := o1.only hg (by omega) (by omega)
  have qw13 : w12.heap.size ≤ w13.heap.size := hg.size
  have H0 := below_only H0 hg (by omega) (by omega)
  clear e0
  clear ve0_0 ve0_1
  clear e1
  clear ve1_0 ve1_1
  go_wp2_with fail
  refine (eqIntSS_any Bo1 Bo0 do1 do0 (rTriangleWay s0 z0 s1 z1) _ (o1.rowAt (by go_grown) (by omega)) (o0.rowAt (by go_grown) (by omega)) (by omega) hR2).mono ?_
  rintro e w14 ⟨rfl, hb⟩
  have hB : Below w13.heap.size w13 w14 := Below.trans (by go_grown) (hb.mono (by first | omega | (simp only [World.size_alloc]; omega) | (simp; done) | (simp; omega)))
  have a0 := a0.below hB (by omega)
  have a1 := a1.below hB (by omega)
  have y0_0 := (hB.cell (p := ⟨w.heap.size, 0, none⟩) (by first | omega | (simp only [World.size_alloc]; omega) | (simp; done) | (simp; omega))).trans y0_0
  have y0_1 := (hB.cell (p := ⟨w.heap.size, 1, none⟩) (by first | omega | (simp only [World.size_alloc]; omega) | (simp; done) | (simp; omega))).trans y0_1
  have y1_0 := (hB.cell (p := ⟨w.heap.size + 1, 0, none⟩) (by first | omega | (simp only [World.size_alloc]; omega) | (simp; done) | (simp; omega))).trans y1_0
  have y1_1 := (hB.cell (p := ⟨w.heap.size + 1, 1, none⟩) (by first | omega | (simp only [World.size_alloc]; omega) | (simp; done) | (simp; omega))).trans y1_1
  have o0 := o0.below hB (by omega)
  have o1 := o1.below hB (by omega)
  have qw14 : w13.heap.size + 0 ≤ w14.heap.size := by have := hb.size; (try simp at this); omega
  have H0 := H0.trans (hB.mono (by omega))
  go_wp2_with fail
  refine (markIntSS_any Bo1 do1 (rTriangleWay s0 z0 s1 z1) 1 _ _ _ o1 (by omega) (by omega) (by omega) (by omega) (by omega)).mono ?_
  rintro e w15 ⟨rfl, mo1, hg⟩
  clear o1
  have o1 := mo1
  clear mo1
  have a0 := a0.rowOnly hg (by omega) (by omega)
  have a1 := a1.rowOnly hg (by omega) (by omega)
  have y0_0 := (hg.cell (p := ⟨w.heap.size, 0, none⟩) (by first | omega | (simp only [World.size_alloc]; omega) | (simp; done) | (simp; omega)) (by first | (simp; done) | (simp; omega))).trans y0_0
  have y0_1 := (hg.cell (p := ⟨w.heap.size, 1, none⟩) (by first | omega | (simp only [World.size_alloc]; omega) | (simp; done) | (simp; omega)) (by first | (simp; done) | (simp; omega))).trans y0_1
  have y1_0 := (hg.cell (p := ⟨w.heap.size + 1, 0, none⟩) (by first | omega | (simp only [World.size_alloc]; omega) | (simp; done) | (simp; omega)) (by first | (simp; done) | (simp; omega))).trans y1_0
  have y1_1 := (hg.cell (p := ⟨w.heap.size + 1, 1, none⟩) (by first | omega | (simp only [World.size_alloc]; omega) | (simp; done) | (simp; omega)) (by first | (simp; done) | (simp; omega))).trans y1_1
  have o0 := o0.only hg (by omega) (by omega)
  have qw15 : w14.heap.size ≤ w15.heap.size := hg.size
  have H0 := below_only H0 hg (by omega) (by omega)
  go_wp2_with fail
  refine (heldIntSS_any Bo1 do1 (rTriangleWay s0 z0 s1 z1).length (rTriangleWay s0 z0 s1 z1) 1 _ (o1.rowAt (by go_grown) (by omega)) rfl (by omega) (by omega) (by omega) (by omega)).mono ?_
  rintro e _ ⟨rfl, rfl⟩
  go_wp2_with fail
  have hR : Below w15.heap.size w15 w15 := Below.refl _ _
  have m0_0 := y0_0
  have m0_1 := y0_1
  have m1_0 := y1_0
  have m1_1 := y1_1
  go_region_held3 (fun w' => Below w15.heap.size w15 w' ∧ w'.cell? ⟨w.heap.size, 0, none⟩ = some (.int .i64 s0) ∧ w'.cell? ⟨w.heap.size, 1, none⟩ = some (.slice A0 z0.length c0) ∧ w'.cell? ⟨w.heap.size + 1, 0, none⟩ = some (.int .i64 s1) ∧ w'.cell? ⟨w.heap.size + 1, 1, none⟩ = some (.slice A1 z1.length c1))
    (first | exact ⟨hR, m0_0, m0_1, m1_0, m1_1⟩ | exact ⟨hR.drew, m0_0, m0_1, m1_0, m1_1⟩)
    (first
      | (go_at_call 13; (with_reducible refine (toTour_any A0 c0 s0 z0 _ (a0.rowAt (by first | exact hR | exact hR.drew) (by omega)) (by omega)).mono ?_); rintro e w16 ⟨Br0, dr0, rfl, r0, hb⟩; have t0 := Nat.le_refl w16.heap.size; have hR : Below w15.heap.size w15 w16 := (by first | exact hR.trans (hb.mono (by have := hR.size; omega)) | exact hR.drew.trans (hb.mono (by have := hR.drew.size; omega))); have m0_0 := (hR.cell (p := ⟨w.heap.size, 0, none⟩) (by first | omega | (simp only [World.size_alloc]; omega) | (simp; done) | (simp; omega))).trans y0_0; have m0_1 := (hR.cell (p := ⟨w.heap.size, 1, none⟩) (by first | omega | (simp only [World.size_alloc]; omega) | (simp; done) | (simp; omega))).trans y0_1; have m1_0 := (hR.cell (p := ⟨w.heap.size + 1, 0, none⟩) (by first | omega | (simp only [World.size_alloc]; omega) | (simp; done) | (simp; omega))).trans y1_0; have m1_1 := (hR.cell (p := ⟨w.heap.size + 1, 1, none⟩) (by first | omega | (simp only [World.size_alloc]; omega) | (simp; done) | (simp; omega))).trans y1_1)
      | (go_at_call 13; (with_reducible refine (toTour_any A1 c1 s1 z1 _ (a1.rowAt (by first | exact hR | exact hR.drew) (by omega)) (by omega)).mono ?_); rintro e w17 ⟨Br1, dr1, rfl, r1, hb⟩; have t1 : w16.heap.size ≤ w17.heap.size := hb.size; have hR : Below w15.heap.size w15 w17 := (by first | exact hR.trans (hb.mono (by have := hR.size; omega)) | exact hR.drew.trans (hb.mono (by have := hR.drew.size; omega))); have m0_0 := (hR.cell (p := ⟨w.heap.size, 0, none⟩) (by first | omega | (simp only [World.size_alloc]; omega) | (simp; done) | (simp; omega))).trans y0_0; have m0_1 := (hR.cell (p := ⟨w.heap.size, 1, none⟩) (by first | omega | (simp only [World.size_alloc]; omega) | (simp; done) | (simp; omega))).trans y0_1; have m1_0 := (hR.cell (p := ⟨w.heap.size + 1, 0, none⟩) (by first | omega | (simp only [World.size_alloc]; omega) | (simp; done) | (simp; omega))).trans y1_0; have m1_1 := (hR.cell (p := ⟨w.heap.size + 1, 1, none⟩) (by first | omega | (simp only [World.size_alloc]; omega) | (simp; done) | (simp; omega))).trans y1_1; have r0 := r0.below hb (by omega))
      | (go_at_call 16; refine (iTriangleWay_any Br0 dr0 s0 z0 Br1 dr1 s1 z1 _ (r0.rowAt (Below.refl _ _) (by omega)) (by omega) (r1.rowAt (Below.refl _ _) (by omega)) (by omega) (hp.on (below_trans H0 hR))).mono ?_; rintro e w18 ⟨Bo2, do2, rfl, o2, hb⟩; have qprev := hR.size; have hR : Below w15.heap.size w15 w18 := (by first | exact hR.trans (hb.mono (by have := hR.size; omega)) | exact hR.drew.trans (hb.mono (by have := hR.drew.size; omega))); have m0_0 := (hR.cell (p := ⟨w.heap.size, 0, none⟩) (by first | omega | (simp only [World.size_alloc]; omega) | (simp; done) | (simp; omega))).trans y0_0; have m0_1 := (hR.cell (p := ⟨w.heap.size, 1, none⟩) (by first | omega | (simp only [World.size_alloc]; omega) | (simp; done) | (simp; omega))).trans y0_1; have m1_0 := (hR.cell (p := ⟨w.heap.size + 1, 0, none⟩) (by first | omega | (simp only [World.size_alloc]; omega) | (simp; done) | (simp; omega))).trans y1_0; have m1_1 := (hR.cell (p := ⟨w.heap.size + 1, 1, none⟩) (by first | omega | (simp only [World.size_alloc]; omega) | (simp; done) | (simp; omega))).trans y1_1))
  clear m0_0 m0_1 m1_0 m1_1
  clear hb r0 r1
  have hB : Below w15.heap.size w15 w18 := Below.trans (by go_grown) (hR.mono (by first | omega | (simp only [World.size_alloc]; omega) | (simp; done) | (simp; omega)))
  have a0 := a0.below hB (by omega)
  have a1 := a1.below hB (by omega)
  have y0_0 := (hB.cell (p := ⟨w.heap.size, 0, none⟩) (by first | omega | (simp only [World.size_alloc]; omega) | (simp; done) | (simp; omega))).trans y0_0
  have y0_1 := (hB.cell (p := ⟨w.heap.size, 1, none⟩) (by first | omega | (simp only [World.size_alloc]; omega) | (simp; done) | (simp; omega))).trans y0_1
  have y1_0 := (hB.cell (p := ⟨w.heap.size + 1, 0, none⟩) (by first | omega | (simp only [World.size_alloc]; omega) | (simp; done) | (simp; omega))).trans y1_0
  have y1_1 := (hB.cell (p := ⟨w.heap.size + 1, 1, none⟩) (by first | omega | (simp only [World.size_alloc]; omega) | (simp; done) | (simp; omega))).trans y1_1
  have o0 := o0.below hB (by omega)
  have o1 := o1.below hB (by omega)
  have qw18 : w15.heap.size + 0 ≤ w18.heap.size := by have := hR.size; (try simp at this); omega
  have H0 := H0.trans (hB.mono (by omega))
  have o2 := o2.mono (lo' := w15.heap.size) (by omega) (Nat.le_refl _)
  go_wp2_with fail
  refine (eqIntSS_any Bo2 Bo0 do2 do0 (rTriangleWay s0 z0 s1 z1) _ (o2.rowAt (by go_grown) (by omega)) (o0.rowAt (by go_grown) (by omega)) (by omega) hR2).mono ?_
  rintro e w19 ⟨rfl, hb⟩
  have hB : Below w18.heap.size w18 w19 := Below.trans (by go_grown) (hb.mono (by first | omega | (simp only [World.size_alloc]; omega) | (simp; done) | (simp; omega)))
  have a0 := a0.below hB (by omega)
  have a1 := a1.below hB (by omega)
  have y0_0 := (hB.cell (p := ⟨w.heap.size, 0, none⟩) (by first | omega | (simp only [World.size_alloc]; omega) | (simp; done) | (simp; omega))).trans y0_0
  have y0_1 := (hB.cell (p := ⟨w.heap.size, 1, none⟩) (by first | omega | (simp only [World.size_alloc]; omega) | (simp; done) | (simp; omega))).trans y0_1
  have y1_0 := (hB.cell (p := ⟨w.heap.size + 1, 0, none⟩) (by first | omega | (simp only [World.size_alloc]; omega) | (simp; done) | (simp; omega))).trans y1_0
  have y1_1 := (hB.cell (p := ⟨w.heap.size + 1, 1, none⟩) (by first | omega | (simp only [World.size_alloc]; omega) | (simp; done) | (simp; omega))).trans y1_1
  have o0 := o0.below hB (by omega)
  have o1 := o1.below hB (by omega)
  have o2 := o2.below hB (by omega)
  have qw19 : w18.heap.size + 0 ≤ w19.heap.size := by have := hb.size; (try simp at this); omega
  have H0 := H0.trans (hB.mono (by omega))
  go_wp2_with fail
  refine (heldIntSS_any Bo1 do1 (rTriangleWay s0 z0 s1 z1).length (rTriangleWay s0 z0 s1 z1) 1 _ (o1.rowAt (by go_grown) (by omega)) rfl (by omega) (by omega) (by omega) (by omega)).mono ?_
  rintro e _ ⟨rfl, rfl⟩
  go_wp2
  go_ret
  exact ⟨rfl, H0⟩
end Go.Proofs.YtaocjjocncoahaaDoor
