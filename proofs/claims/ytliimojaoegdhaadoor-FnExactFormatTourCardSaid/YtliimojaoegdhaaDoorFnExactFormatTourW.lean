/- The law FnExactFormatTour, walked: it returns true. -/
import Derived.Test.YtliimojaoegdhaaDoorFmtTour
import Derived.Test.YtliimojaoegdhaaDoorTours
namespace Go.Proofs.YtliimojaoegdhaaDoor
open Go.RowKit
set_option linter.unusedVariables false in
set_option linter.unusedSimpArgs false in
set_option maxHeartbeats 1600000 in
theorem walkFnExactFormatTour (A0 : Option Addr) (c0 : Nat) (s0 : Int) (z0 : List Int) (w : World) (h0 : z0.length ≤ 9223372036854775807) (a0 : Row w w.heap.size A0 (ints z0)) (hp : Pow w) :
    Calls Tryd.prog 6 #[.agg #[.int .i64 s0, .slice A0 z0.length c0]] w fun e w' => e = .returned (.bool true) ∧ Below w.heap.size w w' := by
  by_cases g0 : 1048576 < z0.length
  · go_enter Tryd.func6, Tryd.ntmps6
    go_wp2_with fail; refine (szTour_out A0 c0 z0.length s0 (1048576) _ (by omega) (by omega) (by omega)).mono ?_; rintro e w00 ⟨rfl, hb00⟩
    go_wp2
    go_ret
    have k0 : Below w.heap.size w w00 := Below.trans (by go_grown) (hb00.mono (by first | omega | (simp only [World.size_alloc]; omega) | (simp; done) | (simp; omega)))
    exact ⟨rfl, k0⟩
  have g0 : z0.length ≤ 1048576 := by omega
  have hx : ((rFormatTour s0 z0).toList == (rFormatTour s0 z0).toList) = true := by simp
  go_enter Tryd.func6, Tryd.ntmps6
  go_wp2_with fail
  refine (szTour_in A0 c0 z0.length s0 (1048576) _ (by omega) (by omega)).mono ?_
  rintro e w1 ⟨rfl, hb⟩
  have hB : Below w.heap.size w w1 := Below.trans (by go_grown) (hb.mono (by first | omega | (simp only [World.size_alloc]; omega) | (simp; done) | (simp; omega)))
  have a0 := a0.below hB (by omega)
  have y0_0 : w1.cell? ⟨w.heap.size, 0, none⟩ = some (.int .i64 s0) := (hb.cell (p := ⟨w.heap.size, 0, none⟩) (by first | omega | (simp only [World.size_alloc]; omega) | (simp; done) | (simp; omega))).trans (by go_simp)
  have y0_1 : w1.cell? ⟨w.heap.size, 1, none⟩ = some (.slice A0 z0.length c0) := (hb.cell (p := ⟨w.heap.size, 1, none⟩) (by first | omega | (simp only [World.size_alloc]; omega) | (simp; done) | (simp; omega))).trans (by go_simp)
  have qw1 : w.heap.size + 1 ≤ w1.heap.size := by have := hb.size; (try simp at this); omega
  have H0 := hB
  go_wp2_with fail
  refine (toTour_any A0 c0 s0 z0 _ (a0.rowAt (by go_grown) (by omega)) (by omega)).mono ?_
  rintro e w2 ⟨Bp0, dp0, rfl, p0, hb⟩
  have hB : Below w1.heap.size w1 w2 := Below.trans (by go_grown) (hb.mono (by first | omega | (simp only [World.size_alloc]; omega) | (simp; done) | (simp; omega)))
  have a0 := a0.below hB (by omega)
  have y0_0 := (hB.cell (p := ⟨w.heap.size, 0, none⟩) (by first | omega | (simp only [World.size_alloc]; omega) | (simp; done) | (simp; omega))).trans y0_0
  have y0_1 := (hB.cell (p := ⟨w.heap.size, 1, none⟩) (by first | omega | (simp only [World.size_alloc]; omega) | (simp; done) | (simp; omega))).trans y0_1
  have qw2 : w1.heap.size + 0 ≤ w2.heap.size := by have := hb.size; (try simp at this); omega
  have H0 := H0.trans (hB.mono (by omega))
  have p0 := p0.mono (lo' := w1.heap.size + 0) (by first | omega | (simp only [World.size_alloc]; omega) | (simp; done) | (simp; omega)) (Nat.le_refl _)
  go_wp2_with fail
  refine (sFormatTour_any Bp0 dp0 s0 z0 _ (p0.rowAt (by go_grown) (by omega)) (by omega)).mono ?_
  rintro e w3 ⟨rfl, hb⟩
  have hB : Below w2.heap.size w2 w3 := Below.trans (by go_grown) (hb.mono (by first | omega | (simp only [World.size_alloc]; omega) | (simp; done) | (simp; omega)))
  have a0 := a0.below hB (by omega)
  have y0_0 := (hB.cell (p := ⟨w.heap.size, 0, none⟩) (by first | omega | (simp only [World.size_alloc]; omega) | (simp; done) | (simp; omega))).trans y0_0
  have y0_1 := (hB.cell (p := ⟨w.heap.size, 1, none⟩) (by first | omega | (simp only [World.size_alloc]; omega) | (simp; done) | (simp; omega))).trans y0_1
  have p0 := p0.below hB (by omega)
  have qw3 : w2.heap.size + 0 ≤ w3.heap.size := by have := hb.size; (try simp at this); omega
  have H0 := H0.trans (hB.mono (by omega))
  clear p0
  go_wp2_with fail
  refine (toTour_any A0 c0 s0 z0 _ (a0.rowAt (by go_grown) (by omega)) (by omega)).mono ?_
  rintro e w4 ⟨Be0, de0, rfl, e0, hb⟩
  have hB : Below w3.heap.size w3 w4 := Below.trans (by go_grown) (hb.mono (by first | omega | (simp only [World.size_alloc]; omega) | (simp; done) | (simp; omega)))
  have a0 := a0.below hB (by omega)
  have y0_0 := (hB.cell (p := ⟨w.heap.size, 0, none⟩) (by first | omega | (simp only [World.size_alloc]; omega) | (simp; done) | (simp; omega))).trans y0_0
  have y0_1 := (hB.cell (p := ⟨w.heap.size, 1, none⟩) (by first | omega | (simp only [World.size_alloc]; omega) | (simp; done) | (simp; omega))).trans y0_1
  have qw4 : w3.heap.size + 0 ≤ w4.heap.size := by have := hb.size; (try simp at this); omega
  have H0 := H0.trans (hB.mono (by omega))
  have e0 := e0.mono (lo' := w3.heap.size + 0) (by first | omega | (simp only [World.size_alloc]; omega) | (simp; done) | (simp; omega)) (Nat.le_refl _)
  have Py0_0 : (w4.alloc (.cells #[.int .i64 s0, .slice Be0 z0.length de0] 36)).cell? ⟨w.heap.size, 0, none⟩ = _ := (World.cell?_alloc_past _ _ _ (by omega)).trans y0_0
  have Py0_1 : (w4.alloc (.cells #[.int .i64 s0, .slice Be0 z0.length de0] 36)).cell? ⟨w.heap.size, 1, none⟩ = _ := (World.cell?_alloc_past _ _ _ (by omega)).trans y0_1
  go_wp2_with fail
  clear Py0_0 Py0_1
  refine (iFormatTour_any Be0 de0 s0 z0 _ (e0.rowAt (by go_grown) (by omega)) (by omega) ((hp.on H0).on (by go_grown))).mono ?_
  rintro e w5 ⟨rfl, hb⟩
  have hB : Below w4.heap.size w4 w5 := Below.trans (by go_grown) (hb.mono (by first | omega | (simp only [World.size_alloc]; omega) | (simp; done) | (simp; omega)))
  have a0 := a0.below hB (by omega)
  have y0_0 := (hB.cell (p := ⟨w.heap.size, 0, none⟩) (by first | omega | (simp only [World.size_alloc]; omega) | (simp; done) | (simp; omega))).trans y0_0
  have y0_1 := (hB.cell (p := ⟨w.heap.size, 1, none⟩) (by first | omega | (simp only [World.size_alloc]; omega) | (simp; done) | (simp; omega))).trans y0_1
  have e0 := e0.below hB (by omega)
  have ve0_0 : w5.cell? ⟨w4.heap.size, 0, none⟩ = some (.int .i64 s0) := (hb.cell (p := ⟨w4.heap.size, 0, none⟩) (by first | omega | (simp only [World.size_alloc]; omega) | (simp; done) | (simp; omega))).trans (by go_simp)
  have ve0_1 : w5.cell? ⟨w4.heap.size, 1, none⟩ = some (.slice Be0 z0.length de0) := (hb.cell (p := ⟨w4.heap.size, 1, none⟩) (by first | omega | (simp only [World.size_alloc]; omega) | (simp; done) | (simp; omega))).trans (by go_simp)
  have qw5 : w4.heap.size + 1 ≤ w5.heap.size := by have := hb.size; (try simp at this); omega
  have H0 := H0.trans (hB.mono (by omega))
  go_wp2_with fail
  have hR : Below w5.heap.size w5 w5 := Below.refl _ _
  have n0 := ve0_0
  have n1 := ve0_1
  have n2 := y0_0
  have n3 := y0_1
  go_region_held3 (fun w' => Below w5.heap.size w5 w' ∧ w'.cell? ⟨w4.heap.size, 0, none⟩ = some (.int .i64 s0) ∧ w'.cell? ⟨w4.heap.size, 1, none⟩ = some (.slice Be0 z0.length de0) ∧ w'.cell? ⟨w.heap.size, 0, none⟩ = some (.int .i64 s0) ∧ w'.cell? ⟨w.heap.size, 1, none⟩ = some (.slice A0 z0.length c0))
    (first | exact ⟨hR, n0, n1, n2, n3⟩ | exact ⟨hR.drew, n0, n1, n2, n3⟩)
    (first
      | (go_at_call 20; refine (toTour_any A0 c0 s0 z0 _ (a0.rowAt (by first | exact hR | exact hR.drew) (by omega)) (by omega)).mono ?_; rintro e wf0 ⟨Bf0, df0, rfl, f0, hb⟩; have hR : Below w5.heap.size w5 wf0 := (by first | exact hR.trans (hb.mono (by have := hR.size; omega)) | exact hR.drew.trans (hb.mono (by have := hR.drew.size; omega))); have n0 := (hR.cell (p := ⟨w4.heap.size, 0, none⟩) (by first | omega | (simp only [World.size_alloc]; omega) | (simp; done) | (simp; omega))).trans ve0_0; have n1 := (hR.cell (p := ⟨w4.heap.size, 1, none⟩) (by first | omega | (simp only [World.size_alloc]; omega) | (simp; done) | (simp; omega))).trans ve0_1; have n2 := (hR.cell (p := ⟨w.heap.size, 0, none⟩) (by first | omega | (simp only [World.size_alloc]; omega) | (simp; done) | (simp; omega))).trans y0_0; have n3 := (hR.cell (p := ⟨w.heap.size, 1, none⟩) (by first | omega | (simp only [World.size_alloc]; omega) | (simp; done) | (simp; omega))).trans y0_1)
      | (go_at_call 22; refine (eqTour_any Be0 Bf0 de0 df0 s0 z0 _ (e0.rowAt (by first | exact hR | exact hR.drew) (by omega)) (f0.rowAt (by first | exact Below.refl _ _ | exact (Below.refl _ _).drew) (Nat.le_refl _)) (by omega)).mono ?_; rintro e w6 ⟨rfl, hb⟩; have hR : Below w5.heap.size w5 w6 := (by first | exact hR.trans (hb.mono (by have := hR.size; omega)) | exact hR.drew.trans (hb.mono (by have := hR.drew.size; omega))); have n0 := (hR.cell (p := ⟨w4.heap.size, 0, none⟩) (by first | omega | (simp only [World.size_alloc]; omega) | (simp; done) | (simp; omega))).trans ve0_0; have n1 := (hR.cell (p := ⟨w4.heap.size, 1, none⟩) (by first | omega | (simp only [World.size_alloc]; omega) | (simp; done) | (simp; omega))).trans ve0_1; have n2 := (hR.cell (p := ⟨w.heap.size, 0, none⟩) (by first | omega | (simp only [World.size_alloc]; omega) | (simp; done) | (simp; omega))).trans y0_0; have n3 := (hR.cell (p := ⟨w.heap.size, 1, none⟩) (by first | omega | (simp only [World.size_alloc]; omega) | (simp; done) | (simp; omega))).trans y0_1))
  clear n0 n1 n2 n3 hb f0
  have hB : Below w5.heap.size w5 w6 := Below.trans (by go_grown) (hR.mono (by first | omega | (simp only [World.size_alloc]; omega) | (simp; done) | (simp; omega)))
  have a0 := a0.below hB (by omega)
  have y0_0 := (hB.cell (p := ⟨w.heap.size, 0, none⟩) (by first | omega | (simp only [World.size_alloc]; omega) | (simp; done) | (simp; omega))).trans y0_0
  have y0_1 := (hB.cell (p := ⟨w.heap.size, 1, none⟩) (by first | omega | (simp only [World.size_alloc]; omega) | (simp; done) | (simp; omega))).trans y0_1
  have e0 := e0.below hB (by omega)
  have ve0_0 := (hB.cell (p := ⟨w4.heap.size, 0, none⟩) (by first | omega | (simp only [World.size_alloc]; omega) | (simp; done) | (simp; omega))).trans ve0_0
  have ve0_1 := (hB.cell (p := ⟨w4.heap.size, 1, none⟩) (by first | omega | (simp only [World.size_alloc]; omega) | (simp; done) | (simp; omega))).trans ve0_1
  have qw6 : w5.heap.size + 0 ≤ w6.heap.size := by have := hR.size; (try simp at this); omega
  have H0 := H0.trans (hB.mono (by omega))
  go_wp2
  go_ret
  exact ⟨rfl, H0⟩
end Go.Proofs.YtliimojaoegdhaaDoor
