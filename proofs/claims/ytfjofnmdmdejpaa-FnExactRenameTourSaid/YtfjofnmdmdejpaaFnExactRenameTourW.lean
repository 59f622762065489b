/- The law FnExactRenameTour, walked: it returns true. -/
import Derived.Test.YtfjofnmdmdejpaaRenameT
namespace Go.Proofs.Ytfjofnmdmdejpaa
open Go.RowKit
set_option linter.unusedVariables false in
set_option linter.unusedSimpArgs false in
set_option maxHeartbeats 1600000 in
theorem walkFnExactRenameTour (A0 : Option Addr) (c0 : Nat) (s0 : Int) (z0 : List Int) (A1 : Option Addr) (c1 : Nat) (z1 : List Int) (w : World) (h0 : z0.length ≤ 9223372036854775807) (a0 : Row w w.heap.size A0 (ints z0)) (h1 : z1.length ≤ 9223372036854775807) (a1 : Row w w.heap.size A1 (ints z1)) :
    Calls Try.prog 14 #[.agg #[.int .i64 s0, .slice A0 z0.length c0], .slice A1 z1.length c1] w fun e w' => e = .returned (.bool true) ∧ Below w.heap.size w w' := by
  by_cases g1 : 1048576 < z1.length
  · go_enter Try.func14, Try.ntmps14
    go_wp2
    go_ret
    exact ⟨rfl, by go_grown⟩
  have g1 : z1.length ≤ 1048576 := by omega
  by_cases g0 : 1048576 < z0.length
  · go_enter Try.func14, Try.ntmps14
    go_wp2_with fail; refine (szTour_out A0 c0 z0.length s0 (1048576) _ (by omega) (by omega) (by omega)).mono ?_; rintro e w00 ⟨rfl, hb00⟩
    go_wp2
    go_ret
    have k0 : Below w.heap.size w w00 := Below.trans (by go_grown) (hb00.mono (by first | omega | (simp only [World.size_alloc]; omega) | (simp; done) | (simp; omega)))
    exact ⟨rfl, k0⟩
  have g0 : z0.length ≤ 1048576 := by omega
  have hR := rRenameTour_len s0 z0 z1
  have hbn : ((bRenameTour s0 z0 z1) != (bRenameTour s0 z0 z1)) = false := by simp
  go_enter Try.func14, Try.ntmps14
  go_wp2_with fail
  refine (szTour_in A0 c0 z0.length s0 (1048576) _ (by omega) (by omega)).mono ?_
  rintro e w1 ⟨rfl, hb⟩
  have hB : Below w.heap.size w w1 := Below.trans (by go_grown) (hb.mono (by first | omega | (simp only [World.size_alloc]; omega) | (simp; done) | (simp; omega)))
  have a0 := a0.below hB (by omega)
  have a1 := a1.below hB (by omega)
  have y0_0 : w1.cell? ⟨w.heap.size, 0, none⟩ = some (.int .i64 s0) := (hb.cell (p := ⟨w.heap.size, 0, none⟩) (by first | omega | (simp only [World.size_alloc]; omega) | (simp; done) | (simp; omega))).trans (by go_simp)
  have y0_1 : w1.cell? ⟨w.heap.size, 1, none⟩ = some (.slice A0 z0.length c0) := (hb.cell (p := ⟨w.heap.size, 1, none⟩) (by first | omega | (simp only [World.size_alloc]; omega) | (simp; done) | (simp; omega))).trans (by go_simp)
  have qw1 : w.heap.size + 1 ≤ w1.heap.size := by have := hb.size; (try simp at this); omega
  have H0 := hB
  go_wp2_with fail
  refine (toTour_any A0 c0 s0 z0 _ (a0.rowAt (by go_grown) (by omega)) (by omega)).mono ?_
  rintro e w2 ⟨Bp0, dp0, rfl, p0, hb⟩
  have hB : Below w1.heap.size w1 w2 := Below.trans (by go_grown) (hb.mono (by first | omega | (simp only [World.size_alloc]; omega) | (simp; done) | (simp; omega)))
  have a0 := a0.below hB (by omega)
  have a1 := a1.below hB (by omega)
  have y0_0 := (hB.cell (p := ⟨w.heap.size, 0, none⟩) (by first | omega | (simp only [World.size_alloc]; omega) | (simp; done) | (simp; omega))).trans y0_0
  have y0_1 := (hB.cell (p := ⟨w.heap.size, 1, none⟩) (by first | omega | (simp only [World.size_alloc]; omega) | (simp; done) | (simp; omega))).trans y0_1
  have qw2 : w1.heap.size + 0 ≤ w2.heap.size := by have := hb.size; (try simp at this); omega
  have H0 := H0.trans (hB.mono (by omega))
  have p0 := p0.mono (lo' := w1.heap.size + 0) (by first | omega | (simp only [World.size_alloc]; omega) | (simp; done) | (simp; omega)) (Nat.le_refl _)
  go_wp2_with fail
  refine (toIntS_any A1 c1 z1 _ (a1.rowAt (by go_grown) (by omega)) (by omega)).mono ?_
  rintro e w3 ⟨Bp1, dp1, rfl, p1, hb⟩
  have hB : Below w2.heap.size w2 w3 := Below.trans (by go_grown) (hb.mono (by first | omega | (simp only [World.size_alloc]; omega) | (simp; done) | (simp; omega)))
  have a0 := a0.below hB (by omega)
  have a1 := a1.below hB (by omega)
  have y0_0 := (hB.cell (p := ⟨w.heap.size, 0, none⟩) (by first | omega | (simp only [World.size_alloc]; omega) | (simp; done) | (simp; omega))).trans y0_0
  have y0_1 := (hB.cell (p := ⟨w.heap.size, 1, none⟩) (by first | omega | (simp only [World.size_alloc]; omega) | (simp; done) | (simp; omega))).trans y0_1
  have p0 := p0.below hB (by omega)
  have qw3 : w2.heap.size + 0 ≤ w3.heap.size := by have := hb.size; (try simp at this); omega
  have H0 := H0.trans (hB.mono (by omega))
  have p1 := p1.mono (lo' := w2.heap.size + 0) (by first | omega | (simp only [World.size_alloc]; omega) | (simp; done) | (simp; omega)) (Nat.le_refl _)
  go_wp2_with fail
  refine (sRenameTour_any Bp0 dp0 s0 z0 Bp1 dp1 z1 _ (p0.rowAt (by go_grown) (by omega)) (by omega) (p1.rowAt (by go_grown) (by omega)) (by omega) (by have := p1.cap; rw [ints_length] at this; exact this.1)).mono ?_
  rintro e w4 ⟨Bo0, do0, rfl, o0, hb⟩
  have hB : Below w3.heap.size w3 w4 := Below.trans (by go_grown) (hb.mono (by first | omega | (simp only [World.size_alloc]; omega) | (simp; done) | (simp; omega)))
  have a0 := a0.below hB (by omega)
  have a1 := a1.below hB (by omega)
  have y0_0 := (hB.cell (p := ⟨w.heap.size, 0, none⟩) (by first | omega | (simp only [World.size_alloc]; omega) | (simp; done) | (simp; omega))).trans y0_0
  have y0_1 := (hB.cell (p := ⟨w.heap.size, 1, none⟩) (by first | omega | (simp only [World.size_alloc]; omega) | (simp; done) | (simp; omega))).trans y0_1
  have p0 := p0.below hB (by omega)
  have p1 := p1.below hB (by omega)
  have qw4 : w3.heap.size + 0 ≤ w4.heap.size := by have := hb.size; (try simp at this); omega
  have H0 := H0.trans (hB.mono (by omega))
  have o0 := o0.mono (lo' := w3.heap.size + 0) (by first | omega | (simp only [World.size_alloc]; omega) | (simp; done) | (simp; omega)) (Nat.le_refl _)
  clear p0
  clear p1
  have Py0_0 : (w4.alloc (.cells #[.int .i64 (tRenameTour s0 z0 z1), .slice Bo0 (rRenameTour s0 z0 z1).length do0] 27)).cell? ⟨w.heap.size, 0, none⟩ = _ := (World.cell?_alloc_past _ _ _ (by omega)).trans y0_0
  have Py0_1 : (w4.alloc (.cells #[.int .i64 (tRenameTour s0 z0 z1), .slice Bo0 (rRenameTour s0 z0 z1).length do0] 27)).cell? ⟨w.heap.size, 1, none⟩ = _ := (World.cell?_alloc_past _ _ _ (by omega)).trans y0_1
  go_wp2_with fail
  clear Py0_0 Py0_1
  refine (toTour_any A0 c0 s0 z0 _ (a0.rowAt (by go_grown) (by omega)) (by omega)).mono ?_
  rintro e w5 ⟨Be0, de0, rfl, e0, hb⟩
  have hB : Below w4.heap.size w4 w5 := Below.trans (by go_grown) (hb.mono (by first | omega | (simp only [World.size_alloc]; omega) | (simp; done) | (simp; omega)))
  have a0 := a0.below hB (by omega)
  have a1 := a1.below hB (by omega)
  have y0_0 := (hB.cell (p := ⟨w.heap.size, 0, none⟩) (by first | omega | (simp only [World.size_alloc]; omega) | (simp; done) | (simp; omega))).trans y0_0
  have y0_1 := (hB.cell (p := ⟨w.heap.size, 1, none⟩) (by first | omega | (simp only [World.size_alloc]; omega) | (simp; done) | (simp; omega))).trans y0_1
  have o0 := o0.below hB (by omega)
  have vo0_0 : w5.cell? ⟨w4.heap.size, 0, none⟩ = some (.int .i64 (tRenameTour s0 z0 z1)) := (hb.cell (p := ⟨w4.heap.size, 0, none⟩) (by first | omega | (simp only [World.size_alloc]; omega) | (simp; done) | (simp; omega))).trans (by go_simp)
  have vo0_1 : w5.cell? ⟨w4.heap.size, 1, none⟩ = some (.slice Bo0 (rRenameTour s0 z0 z1).length do0) := (hb.cell (p := ⟨w4.heap.size, 1, none⟩) (by first | omega | (simp only [World.size_alloc]; omega) | (simp; done) | (simp; omega))).trans (by go_simp)
  have qw5 : w4.heap.size + 1 ≤ w5.heap.size := by have := hb.size; (try simp at this); omega
  have H0 := H0.trans (hB.mono (by omega))
  have e0 := e0.mono (lo' := w4.heap.size + 1) (by first | omega | (simp only [World.size_alloc]; omega) | (simp; done) | (simp; omega)) (Nat.le_refl _)
  have Py0_0 : (w5.alloc (.cells #[.int .i64 s0, .slice Be0 z0.length de0] 27)).cell? ⟨w.heap.size, 0, none⟩ = _ := (World.cell?_alloc_past _ _ _ (by omega)).trans y0_0
  have Py0_1 : (w5.alloc (.cells #[.int .i64 s0, .slice Be0 z0.length de0] 27)).cell? ⟨w.heap.size, 1, none⟩ = _ := (World.cell?_alloc_past _ _ _ (by omega)).trans y0_1
  have Pvo0_0 : (w5.alloc (.cells #[.int .i64 s0, .slice Be0 z0.length de0] 27)).cell? ⟨w4.heap.size, 0, none⟩ = _ := (World.cell?_alloc_past _ _ _ (by omega)).trans vo0_0
  have Pvo0_1 : (w5.alloc (.cells #[.int .i64 s0, .slice Be0 z0.length de0] 27)).cell? ⟨w4.heap.size, 1, none⟩ = _ := (World.cell?_alloc_past _ _ _ (by omega)).trans vo0_1
  go_wp2_with fail
  clear Py0_0 Py0_1 Pvo0_0 Pvo0_1
  refine (toIntS_any A1 c1 z1 _ (a1.rowAt (by go_grown) (by omega)) (by omega)).mono ?_
  rintro e w6 ⟨Be1, de1, rfl, e1, hb⟩
  have hB : Below w5.heap.size w5 w6 := Below.trans (by go_grown) (hb.mono (by first | omega | (simp only [World.size_alloc]; omega) | (simp; done) | (simp; omega)))
  have a0 := a0.below hB (by omega)
  have a1 := a1.below hB (by omega)
  have y0_0 := (hB.cell (p := ⟨w.heap.size, 0, none⟩) (by first | omega | (simp only [World.size_alloc]; omega) | (simp; done) | (simp; omega))).trans y0_0
  have y0_1 := (hB.cell (p := ⟨w.heap.size, 1, none⟩) (by first | omega | (simp only [World.size_alloc]; omega) | (simp; done) | (simp; omega))).trans y0_1
  have o0 := o0.below hB (by omega)
  have vo0_0 := (hB.cell (p := ⟨w4.heap.size, 0, none⟩) (by first | omega | (simp only [World.size_alloc]; omega) | (simp; done) | (simp; omega))).trans vo0_0
  have vo0_1 := (hB.cell (p := ⟨w4.heap.size, 1, none⟩) (by first | omega | (simp only [World.size_alloc]; omega) | (simp; done) | (simp; omega))).trans vo0_1
  have e0 := e0.below hB (by omega)
  have ve0_0 : w6.cell? ⟨w5.heap.size, 0, none⟩ = some (.int .i64 s0) := (hb.cell (p := ⟨w5.heap.size, 0, none⟩) (by first | omega | (simp only [World.size_alloc]; omega) | (simp; done) | (simp; omega))).trans (by go_simp)
  have ve0_1 : w6.cell? ⟨w5.heap.size, 1, none⟩ = some (.slice Be0 z0.length de0) := (hb.cell (p := ⟨w5.heap.size, 1, none⟩) (by first | omega | (simp only [World.size_alloc]; omega) | (simp; done) | (simp; omega))).trans (by go_simp)
  have qw6 : w5.heap.size + 1 ≤ w6.heap.size := by have := hb.size; (try simp at this); omega
  have H0 := H0.trans (hB.mono (by omega))
  have e1 := e1.mono (lo' := w5.heap.size + 1) (by first | omega | (simp only [World.size_alloc]; omega) | (simp; done) | (simp; omega)) (Nat.le_refl _)
  go_wp2_with fail
  refine (iRenameTour_any Be0 de0 s0 z0 Be1 de1 z1 _ (e0.rowAt (by go_grown) (by omega)) (by omega) (e1.rowAt (by go_grown) (by omega)) (by omega) (by have := e1.cap; rw [ints_length] at this; exact this.1)).mono ?_
  rintro e w7 ⟨Bo1, do1, rfl, o1, hb⟩
  have hB : Below w6.heap.size w6 w7 := Below.trans (by go_grown) (hb.mono (by first | omega | (simp only [World.size_alloc]; omega) | (simp; done) | (simp; omega)))
  have a0 := a0.below hB (by omega)
  have a1 := a1.below hB (by omega)
  have y0_0 := (hB.cell (p := ⟨w.heap.size, 0, none⟩) (by first | omega | (simp only [World.size_alloc]; omega) | (simp; done) | (simp; omega))).trans y0_0
  have y0_1 := (hB.cell (p := ⟨w.heap.size, 1, none⟩) (by first | omega | (simp only [World.size_alloc]; omega) | (simp; done) | (simp; omega))).trans y0_1
  have o0 := o0.below hB (by omega)
  have vo0_0 := (hB.cell (p := ⟨w4.heap.size, 0, none⟩) (by first | omega | (simp only [World.size_alloc]; omega) | (simp; done) | (simp; omega))).trans vo0_0
  have vo0_1 := (hB.cell (p := ⟨w4.heap.size, 1, none⟩) (by first | omega | (simp only [World.size_alloc]; omega) | (simp; done) | (simp; omega))).trans vo0_1
  have e0 := e0.below hB (by omega)
  have ve0_0 := (hB.cell (p := ⟨w5.heap.size, 0, none⟩) (by first | omega | (simp only [World.size_alloc]; omega) | (simp; done) | (simp; omega))).trans ve0_0
  have ve0_1 := (hB.cell (p := ⟨w5.heap.size, 1, none⟩) (by first | omega | (simp only [World.size_alloc]; omega) | (simp; done) | (simp; omega))).trans ve0_1
  have e1 := e1.below hB (by omega)
  have qw7 : w6.heap.size + 0 ≤ w7.heap.size := by have := hb.size; (try simp at this); omega
  have H0 := H0.trans (hB.mono (by omega))
  have o1 := o1.mono (lo' := w6.heap.size + 0) (by first | omega | (simp only [World.size_alloc]; omega) | (simp; done) | (simp; omega)) (Nat.le_refl _)
  have Py0_0 : (w7.alloc (.cells #[.int .i64 (tRenameTour s0 z0 z1), .slice Bo1 (rRenameTour s0 z0 z1).length do1] 27)).cell? ⟨w.heap.size, 0, none⟩ = _ := (World.cell?_alloc_past _ _ _ (by omega)).trans y0_0
  have Py0_1 : (w7.alloc (.cells #[.int .i64 (tRenameTour s0 z0 z1), .slice Bo1 (rRenameTour s0 z0 z1).length do1] 27)).cell? ⟨w.heap.size, 1, none⟩ = _ := (World.cell?_alloc_past _ _ _ (by omega)).trans y0_1
  have Pvo0_0 : (w7.alloc (.cells #[.int .i64 (tRenameTour s0 z0 z1), .slice Bo1 (rRenameTour s0 z0 z1).length do1] 27)).cell? ⟨w4.heap.size, 0, none⟩ = _ := (World.cell?_alloc_past _ _ _ (by omega)).trans vo0_0
  have Pvo0_1 : (w7.alloc (.cells #[.int .i64 (tRenameTour s0 z0 z1), .slice Bo1 (rRenameTour s0 z0 z1).length do1] 27)).cell? ⟨w4.heap.size, 1, none⟩ = _ := (World.cell?_alloc_past _ _ _ (by omega)).trans vo0_1
  have Pve0_0 : (w7.alloc (.cells #[.int .i64 (tRenameTour s0 z0 z1), .slice Bo1 (rRenameTour s0 z0 z1).length do1] 27)).cell? ⟨w5.heap.size, 0, none⟩ = _ := (World.cell?_alloc_past _ _ _ (by omega)).trans ve0_0
  have Pve0_1 : (w7.alloc (.cells #[.int .i64 (tRenameTour s0 z0 z1), .slice Bo1 (rRenameTour s0 z0 z1).length do1] 27)).cell? ⟨w5.heap.size, 1, none⟩ = _ := (World.cell?_alloc_past _ _ _ (by omega)).trans ve0_1
  go_wp2_with fail
  clear Py0_0 Py0_1 Pvo0_0 Pvo0_1 Pve0_0 Pve0_1
  refine (eqTour_any Bo1 Bo0 do1 do0 (tRenameTour s0 z0 z1) (rRenameTour s0 z0 z1) _ (o1.rowAt (by go_grown) (by omega)) (o0.rowAt (by go_grown) (by omega)) (by omega)).mono ?_
  rintro e w8 ⟨rfl, hb⟩
  have hB : Below w7.heap.size w7 w8 := Below.trans (by go_grown) (hb.mono (by first | omega | (simp only [World.size_alloc]; omega) | (simp; done) | (simp; omega)))
  have a0 := a0.below hB (by omega)
  have a1 := a1.below hB (by omega)
  have y0_0 := (hB.cell (p := ⟨w.heap.size, 0, none⟩) (by first | omega | (simp only [World.size_alloc]; omega) | (simp; done) | (simp; omega))).trans y0_0
  have y0_1 := (hB.cell (p := ⟨w.heap.size, 1, none⟩) (by first | omega | (simp only [World.size_alloc]; omega) | (simp; done) | (simp; omega))).trans y0_1
  have o0 := o0.below hB (by omega)
  have vo0_0 := (hB.cell (p := ⟨w4.heap.size, 0, none⟩) (by first | omega | (simp only [World.size_alloc]; omega) | (simp; done) | (simp; omega))).trans vo0_0
  have vo0_1 := (hB.cell (p := ⟨w4.heap.size, 1, none⟩) (by first | omega | (simp only [World.size_alloc]; omega) | (simp; done) | (simp; omega))).trans vo0_1
  have e0 := e0.below hB (by omega)
  have ve0_0 := (hB.cell (p := ⟨w5.heap.size, 0, none⟩) (by first | omega | (simp only [World.size_alloc]; omega) | (simp; done) | (simp; omega))).trans ve0_0
  have ve0_1 := (hB.cell (p := ⟨w5.heap.size, 1, none⟩) (by first | omega | (simp only [World.size_alloc]; omega) | (simp; done) | (simp; omega))).trans ve0_1
  have e1 := e1.below hB (by omega)
  have o1 := o1.below hB (by omega)
  have vo1_0 : w8.cell? ⟨w7.heap.size, 0, none⟩ = some (.int .i64 (tRenameTour s0 z0 z1)) := (hb.cell (p := ⟨w7.heap.size, 0, none⟩) (by first | omega | (simp only [World.size_alloc]; omega) | (simp; done) | (simp; omega))).trans (by go_simp)
  have vo1_1 : w8.cell? ⟨w7.heap.size, 1, none⟩ = some (.slice Bo1 (rRenameTour s0 z0 z1).length do1) := (hb.cell (p := ⟨w7.heap.size, 1, none⟩) (by first | omega | (simp only [World.size_alloc]; omega) | (simp; done) | (simp; omega))).trans (by go_simp)
  have qw8 : w7.heap.size + 1 ≤ w8.heap.size := by have := hb.size; (try simp at this); omega
  have H0 := H0.trans (hB.mono (by omega))
  go_wp2_with fail
  have hR : Below w8.heap.size w8 w8 := Below.refl _ _
  have n0 := ve0_0
  have n1 := ve0_1
  have n2 := y0_0
  have n3 := y0_1
  go_region_held3 (fun w' => Below w8.heap.size w8 w' ∧ w'.cell? ⟨w5.heap.size, 0, none⟩ = some (.int .i64 s0) ∧ w'.cell? ⟨w5.heap.size, 1, none⟩ = some (.slice Be0 z0.length de0) ∧ w'.cell? ⟨w.heap.size, 0, none⟩ = some (.int .i64 s0) ∧ w'.cell? ⟨w.heap.size, 1, none⟩ = some (.slice A0 z0.length c0))
    (first | exact ⟨hR, n0, n1, n2, n3⟩ | exact ⟨hR.drew, n0, n1, n2, n3⟩)
    (first
      | (go_at_call 17; refine (toTour_any A0 c0 s0 z0 _ (a0.rowAt (by first | exact hR | exact hR.drew) (by omega)) (by omega)).mono ?_; rintro e wf0 ⟨Bf0, df0, rfl, f0, hb⟩; have hR : Below w8.heap.size w8 wf0 := (by first | exact hR.trans (hb.mono (by have := hR.size; omega)) | exact hR.drew.trans (hb.mono (by have := hR.drew.size; omega))); have n0 := (hR.cell (p := ⟨w5.heap.size, 0, none⟩) (by first | omega | (simp only [World.size_alloc]; omega) | (simp; done) | (simp; omega))).trans ve0_0; have n1 := (hR.cell (p := ⟨w5.heap.size, 1, none⟩) (by first | omega | (simp only [World.size_alloc]; omega) | (simp; done) | (simp; omega))).trans ve0_1; have n2 := (hR.cell (p := ⟨w.heap.size, 0, none⟩) (by first | omega | (simp only [World.size_alloc]; omega) | (simp; done) | (simp; omega))).trans y0_0; have n3 := (hR.cell (p := ⟨w.heap.size, 1, none⟩) (by first | omega | (simp only [World.size_alloc]; omega) | (simp; done) | (simp; omega))).trans y0_1)
      | (go_at_call 19; refine (eqTour_any Be0 Bf0 de0 df0 s0 z0 _ (e0.rowAt (by first | exact hR | exact hR.drew) (by omega)) (f0.rowAt (by first | exact Below.refl _ _ | exact (Below.refl _ _).drew) (Nat.le_refl _)) (by omega)).mono ?_; rintro e w9 ⟨rfl, hb⟩; have hR : Below w8.heap.size w8 w9 := (by first | exact hR.trans (hb.mono (by have := hR.size; omega)) | exact hR.drew.trans (hb.mono (by have := hR.drew.size; omega))); have n0 := (hR.cell (p := ⟨w5.heap.size, 0, none⟩) (by first | omega | (simp only [World.size_alloc]; omega) | (simp; done) | (simp; omega))).trans ve0_0; have n1 := (hR.cell (p := ⟨w5.heap.size, 1, none⟩) (by first | omega | (simp only [World.size_alloc]; omega) | (simp; done) | (simp; omega))).trans ve0_1; have n2 := (hR.cell (p := ⟨w.heap.size, 0, none⟩) (by first | omega | (simp only [World.size_alloc]; omega) | (simp; done) | (simp; omega))).trans y0_0; have n3 := (hR.cell (p := ⟨w.heap.size, 1, none⟩) (by first | omega | (simp only [World.size_alloc]; omega) | (simp; done) | (simp; omega))).trans y0_1))
  clear n0 n1 n2 n3 hb f0
  have hB : Below w8.heap.size w8 w9 := Below.trans (by go_grown) (hR.mono (by first | omega | (simp only [World.size_alloc]; omega) | (simp; done) | (simp; omega)))
  have a0 := a0.below hB (by omega)
  have a1 := a1.below hB (by omega)
  have y0_0 := (hB.cell (p := ⟨w.heap.size, 0, none⟩) (by first | omega | (simp only [World.size_alloc]; omega) | (simp; done) | (simp; omega))).trans y0_0
  have y0_1 := (hB.cell (p := ⟨w.heap.size, 1, none⟩) (by first | omega | (simp only [World.size_alloc]; omega) | (simp; done) | (simp; omega))).trans y0_1
  have o0 := o0.below hB (by omega)
  have vo0_0 := (hB.cell (p := ⟨w4.heap.size, 0, none⟩) (by first | omega | (simp only [World.size_alloc]; omega) | (simp; done) | (simp; omega))).trans vo0_0
  have vo0_1 := (hB.cell (p := ⟨w4.heap.size, 1, none⟩) (by first | omega | (simp only [World.size_alloc]; omega) | (simp; done) | (simp; omega))).trans vo0_1
  have e0 := e0.below hB (by omega)
  have ve0_0 := (hB.cell (p := ⟨w5.heap.size, 0, none⟩) (by first | omega | (simp only [World.size_alloc]; omega) | (simp; done) | (simp; omega))).trans ve0_0
  have ve0_1 := (hB.cell (p := ⟨w5.heap.size, 1, none⟩) (by first | omega | (simp only [World.size_alloc]; omega) | (simp; done) | (simp; omega))).trans ve0_1
  have e1 := e1.below hB (by omega)
  have o1 := o1.below hB (by omega)
  have vo1_0 := (hB.cell (p := ⟨w7.heap.size, 0, none⟩) (by first | omega | (simp only [World.size_alloc]; omega) | (simp; done) | (simp; omega))).trans vo1_0
  have vo1_1 := (hB.cell (p := ⟨w7.heap.size, 1, none⟩) (by first | omega | (simp only [World.size_alloc]; omega) | (simp; done) | (simp; omega))).trans vo1_1
  have qw9 : w8.heap.size + 0 ≤ w9.heap.size := by have := hR.size; (try simp at this); omega
  have H0 := H0.trans (hB.mono (by omega))
  go_wp2_with fail
  refine (toIntS_any A1 c1 z1 _ (a1.rowAt (by go_grown) (by omega)) (by omega)).mono ?_
  rintro e w10 ⟨Bf1, df1, rfl, f1, hb⟩
  have hB : Below w9.heap.size w9 w10 := Below.trans (by go_grown) (hb.mono (by first | omega | (simp only [World.size_alloc]; omega) | (simp; done) | (simp; omega)))
  have a0 := a0.below hB (by omega)
  have a1 := a1.below hB (by omega)
  have y0_0 := (hB.cell (p := ⟨w.heap.size, 0, none⟩) (by first | omega | (simp only [World.size_alloc]; omega) | (simp; done) | (simp; omega))).trans y0_0
  have y0_1 := (hB.cell (p := ⟨w.heap.size, 1, none⟩) (by first | omega | (simp only [World.size_alloc]; omega) | (simp; done) | (simp; omega))).trans y0_1
  have o0 := o0.below hB (by omega)
  have vo0_0 := (hB.cell (p := ⟨w4.heap.size, 0, none⟩) (by first | omega | (simp only [World.size_alloc]; omega) | (simp; done) | (simp; omega))).trans vo0_0
  have vo0_1 := (hB.cell (p := ⟨w4.heap.size, 1, none⟩) (by first | omega | (simp only [World.size_alloc]; omega) | (simp; done) | (simp; omega))).trans vo0_1
  have e0 := e0.below hB (by omega)
  have ve0_0 := (hB.cell (p := ⟨w5.heap.size, 0, none⟩) (by first | omega | (simp only [World.size_alloc]; omega) | (simp; done) | (simp; omega))).trans ve0_0
  have ve0_1 := (hB.cell (p := ⟨w5.heap.size, 1, none⟩) (by first | omega | (simp only [World.size_alloc]; omega) | (simp; done) | (simp; omega))).trans ve0_1
  have e1 := e1.below hB (by omega)
  have o1 := o1.below hB (by omega)
  have vo1_0 := (hB.cell (p := ⟨w7.heap.size, 0, none⟩) (by first | omega | (simp only [World.size_alloc]; omega) | (simp; done) | (simp; omega))).trans vo1_0
  have vo1_1 := (hB.cell (p := ⟨w7.heap.size, 1, none⟩) (by first | omega | (simp only [World.size_alloc]; omega) | (simp; done) | (simp; omega))).trans vo1_1
  have qw10 : w9.heap.size + 0 ≤ w10.heap.size := by have := hb.size; (try simp at this); omega
  have H0 := H0.trans (hB.mono (by omega))
  have f1 := f1.mono (lo' := w9.heap.size + 0) (by first | omega | (simp only [World.size_alloc]; omega) | (simp; done) | (simp; omega)) (Nat.le_refl _)
  go_wp2_with fail
  refine (eqIntS_any Be1 Bf1 de1 df1 z1 _ (e1.rowAt (by go_grown) (by omega)) (f1.rowAt (by go_grown) (by omega)) (by omega)).mono ?_
  rintro e w11 ⟨rfl, hb⟩
  have hB : Below w10.heap.size w10 w11 := Below.trans (by go_grown) (hb.mono (by first | omega | (simp only [World.size_alloc]; omega) | (simp; done) | (simp; omega)))
  have a0 := a0.below hB (by omega)
  have a1 := a1.below hB (by omega)
  have y0_0 := (hB.cell (p := ⟨w.heap.size, 0, none⟩) (by first | omega | (simp only [World.size_alloc]; omega) | (simp; done) | (simp; omega))).trans y0_0
  have y0_1 := (hB.cell (p := ⟨w.heap.size, 1, none⟩) (by first | omega | (simp only [World.size_alloc]; omega) | (simp; done) | (simp; omega))).trans y0_1
  have o0 := o0.below hB (by omega)
  have vo0_0 := (hB.cell (p := ⟨w4.heap.size, 0, none⟩) (by first | omega | (simp only [World.size_alloc]; omega) | (simp; done) | (simp; omega))).trans vo0_0
  have vo0_1 := (hB.cell (p := ⟨w4.heap.size, 1, none⟩) (by first | omega | (simp only [World.size_alloc]; omega) | (simp; done) | (simp; omega))).trans vo0_1
  have e0 := e0.below hB (by omega)
  have ve0_0 := (hB.cell (p := ⟨w5.heap.size, 0, none⟩) (by first | omega | (simp only [World.size_alloc]; omega) | (simp; done) | (simp; omega))).trans ve0_0
  have ve0_1 := (hB.cell (p := ⟨w5.heap.size, 1, none⟩) (by first | omega | (simp only [World.size_alloc]; omega) | (simp; done) | (simp; omega))).trans ve0_1
  have e1 := e1.below hB (by omega)
  have o1 := o1.below hB (by omega)
  have vo1_0 := (hB.cell (p := ⟨w7.heap.size, 0, none⟩) (by first | omega | (simp only [World.size_alloc]; omega) | (simp; done) | (simp; omega))).trans vo1_0
  have vo1_1 := (hB.cell (p := ⟨w7.heap.size, 1, none⟩) (by first | omega | (simp only [World.size_alloc]; omega) | (simp; done) | (simp; omega))).trans vo1_1
  have f1 := f1.below hB (by omega)
  have qw11 : w10.heap.size + 0 ≤ w11.heap.size := by have := hb.size; (try simp at this); omega
  have H0 := H0.trans (hB.mono (by omega))
  clear f1
  go_wp2_with fail
  refine (markTour_any Be0 de0 s0 z0 1 _ _ _ e0 (by omega) (by omega) (by omega) (by omega)).mono ?_
  rintro e w12 ⟨rfl, me0, hg⟩
  clear e0
  have e0 := me0
  clear me0
  have a0 := a0.rowOnly hg (by omega) (by omega)
  have a1 := a1.rowOnly hg (by omega) (by omega)
  have y0_0 := (hg.cell (p := ⟨w.heap.size, 0, none⟩) (by first | omega | (simp only [World.size_alloc]; omega) | (simp; done) | (simp; omega)) (by first | (simp; done) | (simp; omega))).trans y0_0
  have y0_1 := (hg.cell (p := ⟨w.heap.size, 1, none⟩) (by first | omega | (simp only [World.size_alloc]; omega) | (simp; done) | (simp; omega)) (by first | (simp; done) | (simp; omega))).trans y0_1
  have o0 := o0.only hg (by omega) (by omega)
  have vo0_0 := (hg.cell (p := ⟨w4.heap.size, 0, none⟩) (by first | omega | (simp only [World.size_alloc]; omega) | (simp; done) | (simp; omega)) (by first | (simp; done) | (simp; omega))).trans vo0_0
  have vo0_1 := (hg.cell (p := ⟨w4.heap.size, 1, none⟩) (by first | omega | (simp only [World.size_alloc]; omega) | (simp; done) | (simp; omega)) (by first | (simp; done) | (simp; omega))).trans vo0_1
  have ve0_0 := (hg.cell (p := ⟨w5.heap.size, 0, none⟩) (by first | omega | (simp only [World.size_alloc]; omega) | (simp; done) | (simp; omega)) (by first | (simp; done) | (simp; omega))).trans ve0_0
  have ve0_1 := (hg.cell (p := ⟨w5.heap.size, 1, none⟩) (by first | omega | (simp only [World.size_alloc]; omega) | (simp; done) | (simp; omega)) (by first | (simp; done) | (simp; omega))).trans ve0_1
  have e1 := e1.only hg (by omega) (by omega)
  have o1 := o1.only hg (by omega) (by omega)
  have vo1_0 := (hg.cell (p := ⟨w7.heap.size, 0, none⟩) (by first | omega | (simp only [World.size_alloc]; omega) | (simp; done) | (simp; omega)) (by first | (simp; done) | (simp; omega))).trans vo1_0
  have vo1_1 := (hg.cell (p := ⟨w7.heap.size, 1, none⟩) (by first | omega | (simp only [World.size_alloc]; omega) | (simp; done) | (simp; omega)) (by first | (simp; done) | (simp; omega))).trans vo1_1
  have qw12 : w11.heap.size ≤ w12.heap.size := hg.size
  have H0 := below_only H0 hg (by omega) (by omega)
  go_wp2_with fail
  refine (markIntS_any Be1 de1 z1 _ _ _ _ e1 (by omega) (by omega) (by omega)).mono ?_
  rintro e w13 ⟨rfl, me1, hg⟩
  clear e1
  have e1 := me1
  clear me1
  have a0 := a0.rowOnly hg (by omega) (by omega)
  have a1 := a1.rowOnly hg (by omega) (by omega)
  have y0_0 := (hg.cell (p := ⟨w.heap.size, 0, none⟩) (by first | omega | (simp only [World.size_alloc]; omega) | (simp; done) | (simp; omega)) (by first | (simp; done) | (simp; omega))).trans y0_0
  have y0_1 := (hg.cell (p := ⟨w.heap.size, 1, none⟩) (by first | omega | (simp only [World.size_alloc]; omega) | (simp; done) | (simp; omega)) (by first | (simp; done) | (simp; omega))).trans y0_1
  have o0 := o0.only hg (by omega) (by omega)
  have vo0_0 := (hg.cell (p := ⟨w4.heap.size, 0, none⟩) (by first | omega | (simp only [World.size_alloc]; omega) | (simp; done) | (simp; omega)) (by first | (simp; done) | (simp; omega))).trans vo0_0
  have vo0_1 := (hg.cell (p := ⟨w4.heap.size, 1, none⟩) (by first | omega | (simp only [World.size_alloc]; omega) | (simp; done) | (simp; omega)) (by first | (simp; done) | (simp; omega))).trans vo0_1
  have e0 := e0.only hg (by omega) (by omega)
  have ve0_0 := (hg.cell (p := ⟨w5.heap.size, 0, none⟩) (by first | omega | (simp only [World.size_alloc]; omega) | (simp; done) | (simp; omega)) (by first | (simp; done) | (simp; omega))).trans ve0_0
  have ve0_1 := (hg.cell (p := ⟨w5.heap.size, 1, none⟩) (by first | omega | (simp only [World.size_alloc]; omega) | (simp; done) | (simp; omega)) (by first | (simp; done) | (simp; omega))).trans ve0_1
  have o1 := o1.only hg (by omega) (by omega)
  have vo1_0 := (hg.cell (p := ⟨w7.heap.size, 0, none⟩) (by first | omega | (simp only [World.size_alloc]; omega) | (simp; done) | (simp; omega)) (by first | (simp; done) | (simp; omega))).trans vo1_0
  have vo1_1 := (hg.cell (p := ⟨w7.heap.size, 1, none⟩) (by first | omega | (simp only [World.size_alloc]; omega) | (simp; done) | (simp; omega)) (by first | (simp; done) | (simp; omega))).trans vo1_1
  have qw13 : w12.heap.size ≤ w13.heap.size := hg.size
  have H0 := below_only H0 hg (by omega) (by omega)
  clear e0
  clear ve0_0 ve0_1
  clear e1
  go_wp2_with fail
  refine (eqTour_any Bo1 Bo0 do1 do0 (tRenameTour s0 z0 z1) (rRenameTour s0 z0 z1) _ (o1.rowAt (by go_grown) (by omega)) (o0.rowAt (by go_grown) (by omega)) (by omega)).mono ?_
  rintro e w14 ⟨rfl, hb⟩
  have hB : Below w13.heap.size w13 w14 := Below.trans (by go_grown) (hb.mono (by first | omega | (simp only [World.size_alloc]; omega) | (simp; done) | (simp; omega)))
  have a0 := a0.below hB (by omega)
  have a1 := a1.below hB (by omega)
  have y0_0 := (hB.cell (p := ⟨w.heap.size, 0, none⟩) (by first | omega | (simp only [World.size_alloc]; omega) | (simp; done) | (simp; omega))).trans y0_0
  have y0_1 := (hB.cell (p := ⟨w.heap.size, 1, none⟩) (by first | omega | (simp only [World.size_alloc]; omega) | (simp; done) | (simp; omega))).trans y0_1
  have o0 := o0.below hB (by omega)
  have vo0_0 := (hB.cell (p := ⟨w4.heap.size, 0, none⟩) (by first | omega | (simp only [World.size_alloc]; omega) | (simp; done) | (simp; omega))).trans vo0_0
  have vo0_1 := (hB.cell (p := ⟨w4.heap.size, 1, none⟩) (by first | omega | (simp only [World.size_alloc]; omega) | (simp; done) | (simp; omega))).trans vo0_1
  have o1 := o1.below hB (by omega)
  have vo1_0 := (hB.cell (p := ⟨w7.heap.size, 0, none⟩) (by first | omega | (simp only [World.size_alloc]; omega) | (simp; done) | (simp; omega))).trans vo1_0
  have vo1_1 := (hB.cell (p := ⟨w7.heap.size, 1, none⟩) (by first | omega | (simp only [World.size_alloc]; omega) | (simp; done) | (simp; omega))).trans vo1_1
  have qw14 : w13.heap.size + 0 ≤ w14.heap.size := by have := hb.size; (try simp at this); omega
  have H0 := H0.trans (hB.mono (by omega))
  go_wp2_with fail
  refine (markTour_any Bo1 do1 (tRenameTour s0 z0 z1) (rRenameTour s0 z0 z1) 1 _ _ _ o1 (by omega) (by omega) (by omega) (by omega)).mono ?_
  rintro e w15 ⟨rfl, mo1, hg⟩
  clear o1
  have o1 := mo1
  clear mo1
  have a0 := a0.rowOnly hg (by omega) (by omega)
  have a1 := a1.rowOnly hg (by omega) (by omega)
  have y0_0 := (hg.cell (p := ⟨w.heap.size, 0, none⟩) (by first | omega | (simp only [World.size_alloc]; omega) | (simp; done) | (simp; omega)) (by first | (simp; done) | (simp; omega))).trans y0_0
  have y0_1 := (hg.cell (p := ⟨w.heap.size, 1, none⟩) (by first | omega | (simp only [World.size_alloc]; omega) | (simp; done) | (simp; omega)) (by first | (simp; done) | (simp; omega))).trans y0_1
  have o0 := o0.only hg (by omega) (by omega)
  have vo0_0 := (hg.cell (p := ⟨w4.heap.size, 0, none⟩) (by first | omega | (simp only [World.size_alloc]; omega) | (simp; done) | (simp; omega)) (by first | (simp; done) | (simp; omega))).trans vo0_0
  have vo0_1 := (hg.cell (p := ⟨w4.heap.size, 1, none⟩) (by first | omega | (simp only [World.size_alloc]; omega) | (simp; done) | (simp; omega)) (by first | (simp; done) | (simp; omega))).trans vo0_1
  have vo1_0 := (hg.cell (p := ⟨w7.heap.size, 0, none⟩) (by first | omega | (simp only [World.size_alloc]; omega) | (simp; done) | (simp; omega)) (by first | (simp; done) | (simp; omega))).trans vo1_0
  have vo1_1 := (hg.cell (p := ⟨w7.heap.size, 1, none⟩) (by first | omega | (simp only [World.size_alloc]; omega) | (simp; done) | (simp; omega)) (by first | (simp; done) | (simp; omega))).trans vo1_1
  have qw15 : w14.heap.size ≤ w15.heap.size := hg.size
  have H0 := below_only H0 hg (by omega) (by omega)
  go_wp2_with fail
  refine (heldTour_any Bo1 do1 (rRenameTour s0 z0 z1).length (tRenameTour s0 z0 z1) 1 _ (o1.rowAt (by go_grown) (by omega)) (by omega) (by omega) (by omega)).mono ?_
  rintro e w16 ⟨rfl, hb⟩
  have hB : Below w15.heap.size w15 w16 := Below.trans (by go_grown) (hb.mono (by first | omega | (simp only [World.size_alloc]; omega) | (simp; done) | (simp; omega)))
  have a0 := a0.below hB (by omega)
  have a1 := a1.below hB (by omega)
  have y0_0 := (hB.cell (p := ⟨w.heap.size, 0, none⟩) (by first | omega | (simp only [World.size_alloc]; omega) | (simp; done) | (simp; omega))).trans y0_0
  have y0_1 := (hB.cell (p := ⟨w.heap.size, 1, none⟩) (by first | omega | (simp only [World.size_alloc]; omega) | (simp; done) | (simp; omega))).trans y0_1
  have o0 := o0.below hB (by omega)
  have vo0_0 := (hB.cell (p := ⟨w4.heap.size, 0, none⟩) (by first | omega | (simp only [World.size_alloc]; omega) | (simp; done) | (simp; omega))).trans vo0_0
  have vo0_1 := (hB.cell (p := ⟨w4.heap.size, 1, none⟩) (by first | omega | (simp only [World.size_alloc]; omega) | (simp; done) | (simp; omega))).trans vo0_1
  have o1 := o1.below hB (by omega)
  have vo1_0 := (hB.cell (p := ⟨w7.heap.size, 0, none⟩) (by first | omega | (simp only [World.size_alloc]; omega) | (simp; done) | (simp; omega))).trans vo1_0
  have vo1_1 := (hB.cell (p := ⟨w7.heap.size, 1, none⟩) (by first | omega | (simp only [World.size_alloc]; omega) | (simp; done) | (simp; omega))).trans vo1_1
  have qw16 : w15.heap.size + 0 ≤ w16.heap.size := by have := hb.size; (try simp at this); omega
  have H0 := H0.trans (hB.mono (by omega))
  go_wp2_with fail
  refine (toTour_any A0 c0 s0 z0 _ (a0.rowAt (by go_grown) (by omega)) (by omega)).mono ?_
  rintro e w17 ⟨Bp0, dp0, rfl, p0, hb⟩
  have hB : Below w16.heap.size w16 w17 := Below.trans (by go_grown) (hb.mono (by first | omega | (simp only [World.size_alloc]; omega) | (simp; done) | (simp; omega)))
  have a0 := a0.below hB (by omega)
  have a1 := a1.below hB (by omega)
  have y0_0 := (hB.cell (p := ⟨w.heap.size, 0, none⟩) (by first | omega | (simp only [World.size_alloc]; omega) | (simp; done) | (simp; omega))).trans y0_0
  have y0_1 := (hB.cell (p := ⟨w.heap.size, 1, none⟩) (by first | omega | (simp only [World.size_alloc]; omega) | (simp; done) | (simp; omega))).trans y0_1
  have o0 := o0.below hB (by omega)
  have vo0_0 := (hB.cell (p := ⟨w4.heap.size, 0, none⟩) (by first | omega | (simp only [World.size_alloc]; omega) | (simp; done) | (simp; omega))).trans vo0_0
  have vo0_1 := (hB.cell (p := ⟨w4.heap.size, 1, none⟩) (by first | omega | (simp only [World.size_alloc]; omega) | (simp; done) | (simp; omega))).trans vo0_1
  have o1 := o1.below hB (by omega)
  have vo1_0 := (hB.cell (p := ⟨w7.heap.size, 0, none⟩) (by first | omega | (simp only [World.size_alloc]; omega) | (simp; done) | (simp; omega))).trans vo1_0
  have vo1_1 := (hB.cell (p := ⟨w7.heap.size, 1, none⟩) (by first | omega | (simp only [World.size_alloc]; omega) | (simp; done) | (simp; omega))).trans vo1_1
  have qw17 : w16.heap.size + 0 ≤ w17.heap.size := by have := hb.size; (try simp at this); omega
  have H0 := H0.trans (hB.mono (by omega))
  have p0 := p0.mono (lo' := w16.heap.size + 0) (by first | omega | (simp only [World.size_alloc]; omega) | (simp; done) | (simp; omega)) (Nat.le_refl _)
  go_wp2_with fail
  refine (toIntS_any A1 c1 z1 _ (a1.rowAt (by go_grown) (by omega)) (by omega)).mono ?_
  rintro e w18 ⟨Bp1, dp1, rfl, p1, hb⟩
  have hB : Below w17.heap.size w17 w18 := Below.trans (by go_grown) (hb.mono (by first | omega | (simp only [World.size_alloc]; omega) | (simp; done) | (simp; omega)))
  have a0 := a0.below hB (by omega)
  have a1 := a1.below hB (by omega)
  have y0_0 := (hB.cell (p := ⟨w.heap.size, 0, none⟩) (by first | omega | (simp only [World.size_alloc]; omega) | (simp; done) | (simp; omega))).trans y0_0
  have y0_1 := (hB.cell (p := ⟨w.heap.size, 1, none⟩) (by first | omega | (simp only [World.size_alloc]; omega) | (simp; done) | (simp; omega))).trans y0_1
  have o0 := o0.below hB (by omega)
  have vo0_0 := (hB.cell (p := ⟨w4.heap.size, 0, none⟩) (by first | omega | (simp only [World.size_alloc]; omega) | (simp; done) | (simp; omega))).trans vo0_0
  have vo0_1 := (hB.cell (p := ⟨w4.heap.size, 1, none⟩) (by first | omega | (simp only [World.size_alloc]; omega) | (simp; done) | (simp; omega))).trans vo0_1
  have o1 := o1.below hB (by omega)
  have vo1_0 := (hB.cell (p := ⟨w7.heap.size, 0, none⟩) (by first | omega | (simp only [World.size_alloc]; omega) | (simp; done) | (simp; omega))).trans vo1_0
  have vo1_1 := (hB.cell (p := ⟨w7.heap.size, 1, none⟩) (by first | omega | (simp only [World.size_alloc]; omega) | (simp; done) | (simp; omega))).trans vo1_1
  have p0 := p0.below hB (by omega)
  have qw18 : w17.heap.size + 0 ≤ w18.heap.size := by have := hb.size; (try simp at this); omega
  have H0 := H0.trans (hB.mono (by omega))
  have p1 := p1.mono (lo' := w17.heap.size + 0) (by first | omega | (simp only [World.size_alloc]; omega) | (simp; done) | (simp; omega)) (Nat.le_refl _)
  go_wp2_with fail
  refine (iRenameTour_any Bp0 dp0 s0 z0 Bp1 dp1 z1 _ (p0.rowAt (by go_grown) (by omega)) (by omega) (p1.rowAt (by go_grown) (by omega)) (by omega) (by have := p1.cap; rw [ints_length] at this; exact this.1)).mono ?_
  rintro e w19 ⟨Bo2, do2, rfl, o2, hb⟩
  have hB : Below w18.heap.size w18 w19 := Below.trans (by go_grown) (hb.mono (by first | omega | (simp only [World.size_alloc]; omega) | (simp; done) | (simp; omega)))
  have a0 := a0.below hB (by omega)
  have a1 := a1.below hB (by omega)
  have y0_0 := (hB.cell (p := ⟨w.heap.size, 0, none⟩) (by first | omega | (simp only [World.size_alloc]; omega) | (simp; done) | (simp; omega))).trans y0_0
  have y0_1 := (hB.cell (p := ⟨w.heap.size, 1, none⟩) (by first | omega | (simp only [World.size_alloc]; omega) | (simp; done) | (simp; omega))).trans y0_1
  have o0 := o0.below hB (by omega)
  have vo0_0 := (hB.cell (p := ⟨w4.heap.size, 0, none⟩) (by first | omega | (simp only [World.size_alloc]; omega) | (simp; done) | (simp; omega))).trans vo0_0
  have vo0_1 := (hB.cell (p := ⟨w4.heap.size, 1, none⟩) (by first | omega | (simp only [World.size_alloc]; omega) | (simp; done) | (simp; omega))).trans vo0_1
  have o1 := o1.below hB (by omega)
  have vo1_0 := (hB.cell (p := ⟨w7.heap.size, 0, none⟩) (by first | omega | (simp only [World.size_alloc]; omega) | (simp; done) | (simp; omega))).trans vo1_0
  have vo1_1 := (hB.cell (p := ⟨w7.heap.size, 1, none⟩) (by first | omega | (simp only [World.size_alloc]; omega) | (simp; done) | (simp; omega))).trans vo1_1
  have p0 := p0.below hB (by omega)
  have p1 := p1.below hB (by omega)
  have qw19 : w18.heap.size + 0 ≤ w19.heap.size := by have := hb.size; (try simp at this); omega
  have H0 := H0.trans (hB.mono (by omega))
  have o2 := o2.mono (lo' := w18.heap.size + 0) (by first | omega | (simp only [World.size_alloc]; omega) | (simp; done) | (simp; omega)) (Nat.le_refl _)
  clear p0
  clear p1
  have Py0_0 : (w19.alloc (.cells #[.int .i64 (tRenameTour s0 z0 z1), .slice Bo2 (rRenameTour s0 z0 z1).length do2] 27)).cell? ⟨w.heap.size, 0, none⟩ = _ := (World.cell?_alloc_past _ _ _ (by omega)).trans y0_0
  have Py0_1 : (w19.alloc (.cells #[.int .i64 (tRenameTour s0 z0 z1), .slice Bo2 (rRenameTour s0 z0 z1).length do2] 27)).cell? ⟨w.heap.size, 1, none⟩ = _ := (World.cell?_alloc_past _ _ _ (by omega)).trans y0_1
  have Pvo0_0 : (w19.alloc (.cells #[.int .i64 (tRenameTour s0 z0 z1), .slice Bo2 (rRenameTour s0 z0 z1).length do2] 27)).cell? ⟨w4.heap.size, 0, none⟩ = _ := (World.cell?_alloc_past _ _ _ (by omega)).trans vo0_0
  have Pvo0_1 : (w19.alloc (.cells #[.int .i64 (tRenameTour s0 z0 z1), .slice Bo2 (rRenameTour s0 z0 z1).length do2] 27)).cell? ⟨w4.heap.size, 1, none⟩ = _ := (World.cell?_alloc_past _ _ _ (by omega)).trans vo0_1
  have Pvo1_0 : (w19.alloc (.cells #[.int .i64 (tRenameTour s0 z0 z1), .slice Bo2 (rRenameTour s0 z0 z1).length do2] 27)).cell? ⟨w7.heap.size, 0, none⟩ = _ := (World.cell?_alloc_past _ _ _ (by omega)).trans vo1_0
  have Pvo1_1 : (w19.alloc (.cells #[.int .i64 (tRenameTour s0 z0 z1), .slice Bo2 (rRenameTour s0 z0 z1).length do2] 27)).cell? ⟨w7.heap.size, 1, none⟩ = _ := (World.cell?_alloc_past _ _ _ (by omega)).trans vo1_1
  go_wp2_with fail
  clear Py0_0 Py0_1 Pvo0_0 Pvo0_1 Pvo1_0 Pvo1_1
  refine (eqTour_any Bo2 Bo0 do2 do0 (tRenameTour s0 z0 z1) (rRenameTour s0 z0 z1) _ (o2.rowAt (by go_grown) (by omega)) (o0.rowAt (by go_grown) (by omega)) (by omega)).mono ?_
  rintro e w20 ⟨rfl, hb⟩
  have hB : Below w19.heap.size w19 w20 := Below.trans (by go_grown) (hb.mono (by first | omega | (simp only [World.size_alloc]; omega) | (simp; done) | (simp; omega)))
  have a0 := a0.below hB (by omega)
  have a1 := a1.below hB (by omega)
  have y0_0 := (hB.cell (p := ⟨w.heap.size, 0, none⟩) (by first | omega | (simp only [World.size_alloc]; omega) | (simp; done) | (simp; omega))).trans y0_0
  have y0_1 := (hB.cell (p := ⟨w.heap.size, 1, none⟩) (by first | omega | (simp only [World.size_alloc]; omega) | (simp; done) | (simp; omega))).trans y0_1
  have o0 := o0.below hB (by omega)
  have vo0_0 := (hB.cell (p := ⟨w4.heap.size, 0, none⟩) (by first | omega | (simp only [World.size_alloc]; omega) | (simp; done) | (simp; omega))).trans vo0_0
  have vo0_1 := (hB.cell (p := ⟨w4.heap.size, 1, none⟩) (by first | omega | (simp only [World.size_alloc]; omega) | (simp; done) | (simp; omega))).trans vo0_1
  have o1 := o1.below hB (by omega)
  have vo1_0 := (hB.cell (p := ⟨w7.heap.size, 0, none⟩) (by first | omega | (simp only [World.size_alloc]; omega) | (simp; done) | (simp; omega))).trans vo1_0
  have vo1_1 := (hB.cell (p := ⟨w7.heap.size, 1, none⟩) (by first | omega | (simp only [World.size_alloc]; omega) | (simp; done) | (simp; omega))).trans vo1_1
  have o2 := o2.below hB (by omega)
  have vo2_0 : w20.cell? ⟨w19.heap.size, 0, none⟩ = some (.int .i64 (tRenameTour s0 z0 z1)) := (hb.cell (p := ⟨w19.heap.size, 0, none⟩) (by first | omega | (simp only [World.size_alloc]; omega) | (simp; done) | (simp; omega))).trans (by go_simp)
  have vo2_1 : w20.cell? ⟨w19.heap.size, 1, none⟩ = some (.slice Bo2 (rRenameTour s0 z0 z1).length do2) := (hb.cell (p := ⟨w19.heap.size, 1, none⟩) (by first | omega | (simp only [World.size_alloc]; omega) | (simp; done) | (simp; omega))).trans (by go_simp)
  have qw20 : w19.heap.size + 1 ≤ w20.heap.size := by have := hb.size; (try simp at this); omega
  have H0 := H0.trans (hB.mono (by omega))
  go_wp2_with fail
  refine (heldTour_any Bo1 do1 (rRenameTour s0 z0 z1).length (tRenameTour s0 z0 z1) 1 _ (o1.rowAt (by go_grown) (by omega)) (by omega) (by omega) (by omega)).mono ?_
  rintro e w21 ⟨rfl, hb⟩
  have hB : Below w20.heap.size w20 w21 := Below.trans (by go_grown) (hb.mono (by first | omega | (simp only [World.size_alloc]; omega) | (simp; done) | (simp; omega)))
  have a0 := a0.below hB (by omega)
  have a1 := a1.below hB (by omega)
  have y0_0 := (hB.cell (p := ⟨w.heap.size, 0, none⟩) (by first | omega | (simp only [World.size_alloc]; omega) | (simp; done) | (simp; omega))).trans y0_0
  have y0_1 := (hB.cell (p := ⟨w.heap.size, 1, none⟩) (by first | omega | (simp only [World.size_alloc]; omega) | (simp; done) | (simp; omega))).trans y0_1
  have o0 := o0.below hB (by omega)
  have vo0_0 := (hB.cell (p := ⟨w4.heap.size, 0, none⟩) (by first | omega | (simp only [World.size_alloc]; omega) | (simp; done) | (simp; omega))).trans vo0_0
  have vo0_1 := (hB.cell (p := ⟨w4.heap.size, 1, none⟩) (by first | omega | (simp only [World.size_alloc]; omega) | (simp; done) | (simp; omega))).trans vo0_1
  have o1 := o1.below hB (by omega)
  have vo1_0 := (hB.cell (p := ⟨w7.heap.size, 0, none⟩) (by first | omega | (simp only [World.size_alloc]; omega) | (simp; done) | (simp; omega))).trans vo1_0
  have vo1_1 := (hB.cell (p := ⟨w7.heap.size, 1, none⟩) (by first | omega | (simp only [World.size_alloc]; omega) | (simp; done) | (simp; omega))).trans vo1_1
  have o2 := o2.below hB (by omega)
  have vo2_0 := (hB.cell (p := ⟨w19.heap.size, 0, none⟩) (by first | omega | (simp only [World.size_alloc]; omega) | (simp; done) | (simp; omega))).trans vo2_0
  have vo2_1 := (hB.cell (p := ⟨w19.heap.size, 1, none⟩) (by first | omega | (simp only [World.size_alloc]; omega) | (simp; done) | (simp; omega))).trans vo2_1
  have qw21 : w20.heap.size + 0 ≤ w21.heap.size := by have := hb.size; (try simp at this); omega
  have H0 := H0.trans (hB.mono (by omega))
  go_wp2
  go_ret
  exact ⟨rfl, H0⟩
end Go.Proofs.Ytfjofnmdmdejpaa
