/- The law FnExactRealizeScores, walked: it returns true. -/
import Derived.Test.YtaocjjocncoahaaRealI
import Derived.Test.YtaocjjocncoahaaRealW
import Derived.Test.YtaocjjocncoahaaLib
namespace Go.Proofs.Ytaocjjocncoahaa
open Go.RowKit
set_option linter.unusedVariables false in
set_option linter.unusedSimpArgs false in
set_option maxHeartbeats 1600000 in
theorem walkFnExactRealizeScores (A0 : Option Addr) (c0 : Nat) (z0 : List Int) (w : World) (h0 : z0.length ≤ 9223372036854775807) (a0 : Row w w.heap.size A0 (ints z0)) :
    Calls Try.prog 4 #[.slice A0 z0.length c0] w fun e w' => e = .returned (.bool true) ∧ Below w.heap.size w w' := by
  by_cases g0 : 1048576 < z0.length
  · go_enter Try.func4, Try.ntmps4
    go_wp2
    go_ret
    exact ⟨rfl, by go_grown⟩
  have g0 : z0.length ≤ 1048576 := by omega
  have hR := rRealizeScores_len z0
  have hbn : ((bRealizeScores z0) != (bRealizeScores z0)) = false := by simp
  go_enter Try.func4, Try.ntmps4
  go_wp2_with fail
  refine (toIntS_any A0 c0 z0 _ (a0.rowAt (by go_grown) (by omega)) (by omega)).mono ?_
  rintro e w1 ⟨Bp0, dp0, rfl, p0, hb⟩
  have hB : Below w.heap.size w w1 := Below.trans (by go_grown) (hb.mono (by first | omega | (simp only [World.size_alloc]; omega) | (simp; done) | (simp; omega)))
  have a0 := a0.below hB (by omega)
  have qw1 : w.heap.size + 0 ≤ w1.heap.size := by have := hb.size; (try simp at this); omega
  have H0 := hB
  have p0 := p0.mono (lo' := w.heap.size + 0) (by first | omega | (simp only [World.size_alloc]; omega) | (simp; done) | (simp; omega)) (Nat.le_refl _)
  go_wp2_with fail
  refine (sRealizeScores_any Bp0 dp0 z0 _ (p0.rowAt (by go_grown) (by omega)) (by omega)).mono ?_
  rintro e w2 ⟨Bo0, do0, rfl, o0, hb⟩
  have hB : Below w1.heap.size w1 w2 := Below.trans (by go_grown) (hb.mono (by first | omega | (simp only [World.size_alloc]; omega) | (simp; done) | (simp; omega)))
  have a0 := a0.below hB (by omega)
  have p0 := p0.below hB (by omega)
  have qw2 : w1.heap.size + 0 ≤ w2.heap.size := by have := hb.size; (try simp at this); omega
  have H0 := H0.trans (hB.mono (by omega))
  have o0 := o0.mono (lo' := w1.heap.size + 0) (by first | omega | (simp only [World.size_alloc]; omega) | (simp; done) | (simp; omega)) (Nat.le_refl _)
  clear p0
  go_wp2_with fail
  refine (toIntS_any A0 c0 z0 _ (a0.rowAt (by go_grown) (by omega)) (by omega)).mono ?_
  rintro e w3 ⟨Be0, de0, rfl, e0, hb⟩
  have hB : Below w2.heap.size w2 w3 := Below.trans (by go_grown) (hb.mono (by first | omega | (simp only [World.size_alloc]; omega) | (simp; done) | (simp; omega)))
  have a0 := a0.below hB (by omega)
  have o0 := o0.below hB (by omega)
  have vo0_0 : w3.cell? ⟨w2.heap.size, 0, none⟩ = some (.int .i64 (tRealizeScores z0)) := (hb.cell (p := ⟨w2.heap.size, 0, none⟩) (by first | omega | (simp only [World.size_alloc]; omega) | (simp; done) | (simp; omega))).trans (by go_simp)
  have vo0_1 : w3.cell? ⟨w2.heap.size, 1, none⟩ = some (.slice Bo0 (rRealizeScores z0).length do0) := (hb.cell (p := ⟨w2.heap.size, 1, none⟩) (by first | omega | (simp only [World.size_alloc]; omega) | (simp; done) | (simp; omega))).trans (by go_simp)
  have qw3 : w2.heap.size + 1 ≤ w3.heap.size := by have := hb.size; (try simp at this); omega
  have H0 := H0.trans (hB.mono (by omega))
  have e0 := e0.mono (lo' := w2.heap.size + 1) (by first | omega | (simp only [World.size_alloc]; omega) | (simp; done) | (simp; omega)) (Nat.le_refl _)
  go_wp2_with fail
  refine (iRealizeScores_any Be0 de0 z0 _ (e0.rowAt (by go_grown) (by omega)) (by omega)).mono ?_
  rintro e w4 ⟨Bo1, do1, rfl, o1, hb⟩
  have hB : Below w3.heap.size w3 w4 := Below.trans (by go_grown) (hb.mono (by first | omega | (simp only [World.size_alloc]; omega) | (simp; done) | (simp; omega)))
  have a0 := a0.below hB (by omega)
  have o0 := o0.below hB (by omega)
  have vo0_0 := (hB.cell (p := ⟨w2.heap.size, 0, none⟩) (by first | omega | (simp only [World.size_alloc]; omega) | (simp; done) | (simp; omega))).trans vo0_0
  have vo0_1 := (hB.cell (p := ⟨w2.heap.size, 1, none⟩) (by first | omega | (simp only [World.size_alloc]; omega) | (simp; done) | (simp; omega))).trans vo0_1
  have e0 := e0.below hB (by omega)
  have qw4 : w3.heap.size + 0 ≤ w4.heap.size := by have := hb.size; (try simp at this); omega
  have H0 := H0.trans (hB.mono (by omega))
  have o1 := o1.mono (lo' := w3.heap.size + 0) (by first | omega | (simp only [World.size_alloc]; omega) | (simp; done) | (simp; omega)) (Nat.le_refl _)
  have Pvo0_0 : (w4.alloc (.cells #[.int .i64 (tRealizeScores z0), .slice Bo1 (rRealizeScores z0).length do1] 26)).cell? ⟨w2.heap.size, 0, none⟩ = _ := (World.cell?_alloc_past _ _ _ (by omega)).trans vo0_0
  have Pvo0_1 : (w4.alloc (.cells #[.int .i64 (tRealizeScores z0), .slice Bo1 (rRealizeScores z0).length do1] 26)).cell? ⟨w2.heap.size, 1, none⟩ = _ := (World.cell?_alloc_past _ _ _ (by omega)).trans vo0_1
  go_wp2_with fail
  clear Pvo0_0 Pvo0_1
  refine (eqTour_any Bo1 Bo0 do1 do0 (tRealizeScores z0) (rRealizeScores z0) _ (o1.rowAt (by go_grown) (by omega)) (o0.rowAt (by go_grown) (by omega)) (by omega)).mono ?_
  rintro e w5 ⟨rfl, hb⟩
  have hB : Below w4.heap.size w4 w5 := Below.trans (by go_grown) (hb.mono (by first | omega | (simp only [World.size_alloc]; omega) | (simp; done) | (simp; omega)))
  have a0 := a0.below hB (by omega)
  have o0 := o0.below hB (by omega)
  have vo0_0 := (hB.cell (p := ⟨w2.heap.size, 0, none⟩) (by first | omega | (simp only [World.size_alloc]; omega) | (simp; done) | (simp; omega))).trans vo0_0
  have vo0_1 := (hB.cell (p := ⟨w2.heap.size, 1, none⟩) (by first | omega | (simp only [World.size_alloc]; omega) | (simp; done) | (simp; omega))).trans vo0_1
  have e0 := e0.below hB (by omega)
  have o1 := o1.below hB (by omega)
  have vo1_0 : w5.cell? ⟨w4.heap.size, 0, none⟩ = some (.int .i64 (tRealizeScores z0)) := (hb.cell (p := ⟨w4.heap.size, 0, none⟩) (by first | omega | (simp only [World.size_alloc]; omega) | (simp; done) | (simp; omega))).trans (by go_simp)
  have vo1_1 : w5.cell? ⟨w4.heap.size, 1, none⟩ = some (.slice Bo1 (rRealizeScores z0).length do1) := (hb.cell (p := ⟨w4.heap.size, 1, none⟩) (by first | omega | (simp only [World.size_alloc]; omega) | (simp; done) | (simp; omega))).trans (by go_simp)
  have qw5 : w4.heap.size + 1 ≤ w5.heap.size := by have := hb.size; (try simp at this); omega
  have H0 := H0.trans (hB.mono (by omega))
  go_wp2_with fail
  refine (toIntS_any A0 c0 z0 _ (a0.rowAt (by go_grown) (by omega)) (by omega)).mono ?_
  rintro e w6 ⟨Bf0, df0, rfl, f0, hb⟩
  have hB : Below w5.heap.size w5 w6 := Below.trans (by go_grown) (hb.mono (by first | omega | (simp only [World.size_alloc]; omega) | (simp; done) | (simp; omega)))
  have a0 := a0.below hB (by omega)
  have o0 := o0.below hB (by omega)
  have vo0_0 := (hB.cell (p := ⟨w2.heap.size, 0, none⟩) (by first | omega | (simp only [World.size_alloc]; omega) | (simp; done) | (simp; omega))).trans vo0_0
  have vo0_1 := (hB.cell (p := ⟨w2.heap.size, 1, none⟩) (by first | omega | (simp only [World.size_alloc]; omega) | (simp; done) | (simp; omega))).trans vo0_1
  have e0 := e0.below hB (by omega)
  have o1 := o1.below hB (by omega)
  have vo1_0 := (hB.cell (p := ⟨w4.heap.size, 0, none⟩) (by first | omega | (simp only [World.size_alloc]; omega) | (simp; done) | (simp; omega))).trans vo1_0
  have vo1_1 := (hB.cell (p := ⟨w4.heap.size, 1, none⟩) (by first | omega | (simp only [World.size_alloc]; omega) | (simp; done) | (simp; omega))).trans vo1_1
  have qw6 : w5.heap.size + 0 ≤ w6.heap.size := by have := hb.size; (try simp at this); omega
  have H0 := H0.trans (hB.mono (by omega))
  have f0 := f0.mono (lo' := w5.heap.size + 0) (by first | omega | (simp only [World.size_alloc]; omega) | (simp; done) | (simp; omega)) (Nat.le_refl _)
  go_wp2_with fail
  refine (eqIntS_any Be0 Bf0 de0 df0 z0 _ (e0.rowAt (by go_grown) (by omega)) (f0.rowAt (by go_grown) (by omega)) (by omega)).mono ?_
  rintro e w7 ⟨rfl, hb⟩
  have hB : Below w6.heap.size w6 w7 := Below.trans (by go_grown) (hb.mono (by first | omega | (simp only [World.size_alloc]; omega) | (simp; done) | (simp; omega)))
  have a0 := a0.below hB (by omega)
  have o0 := o0.below hB (by omega)
  have vo0_0 := (hB.cell (p := ⟨w2.heap.size, 0, none⟩) (by first | omega | (simp only [World.size_alloc]; omega) | (simp; done) | (simp; omega))).trans vo0_0
  have vo0_1 := (hB.cell (p := ⟨w2.heap.size, 1, none⟩) (by first | omega | (simp only [World.size_alloc]; omega) | (simp; done) | (simp; omega))).trans vo0_1
  have e0 := e0.below hB (by omega)
  have o1 := o1.below hB (by omega)
  have vo1_0 := (hB.cell (p := ⟨w4.heap.size, 0, none⟩) (by first | omega | (simp only [World.size_alloc]; omega) | (simp; done) | (simp; omega))).trans vo1_0
  have vo1_1 := (hB.cell (p := ⟨w4.heap.size, 1, none⟩) (by first | omega | (simp only [World.size_alloc]; omega) | (simp; done) | (simp; omega))).trans vo1_1
  have f0 := f0.below hB (by omega)
  have qw7 : w6.heap.size + 0 ≤ w7.heap.size := by have := hb.size; (try simp at this); omega
  have H0 := H0.trans (hB.mono (by omega))
  clear f0
  go_wp2_with fail
  refine (markIntS_any Be0 de0 z0 1 _ _ _ e0 (by omega) (by omega) (by omega)).mono ?_
  rintro e w8 ⟨rfl, me0, hg⟩
  clear e0
  have e0 := me0
  clear me0
  have a0 := a0.rowOnly hg (by omega) (by omega)
  have o0 := o0.only hg (by omega) (by omega)
  have vo0_0 := (hg.cell (p := ⟨w2.heap.size, 0, none⟩) (by first | omega | (simp only [World.size_alloc]; omega) | (simp; done) | (simp; omega)) (by first | (simp; done) | (simp; omega))).trans vo0_0
  have vo0_1 := (hg.cell (p := ⟨w2.heap.size, 1, none⟩) (by first | omega | (simp only [World.size_alloc]; omega) | (simp; done) | (simp; omega)) (by first | (simp; done) | (simp; omega))).trans vo0_1
  have o1 := o1.only hg (by omega) (by omega)
  have vo1_0 := (hg.cell (p := ⟨w4.heap.size, 0, none⟩) (by first | omega | (simp only [World.size_alloc]; omega) | (simp; done) | (simp; omega)) (by first | (simp; done) | (simp; omega))).trans vo1_0
  have vo1_1 := (hg.cell (p := ⟨w4.heap.size, 1, none⟩) (by first | omega | (simp only [World.size_alloc]; omega) | (simp; done) | (simp; omega)) (by first | (simp; done) | (simp; omega))).trans vo1_1
  have qw8 : w7.heap.size ≤ w8.heap.size := hg.size
  have H0 := below_only H0 hg (by omega) (by omega)
  clear e0
  go_wp2_with fail
  refine (eqTour_any Bo1 Bo0 do1 do0 (tRealizeScores z0) (rRealizeScores z0) _ (o1.rowAt (by go_grown) (by omega)) (o0.rowAt (by go_grown) (by omega)) (by omega)).mono ?_
  rintro e w9 ⟨rfl, hb⟩
  have hB : Below w8.heap.size w8 w9 := Below.trans (by go_grown) (hb.mono (by first | omega | (simp only [World.size_alloc]; omega) | (simp; done) | (simp; omega)))
  have a0 := a0.below hB (by omega)
  have o0 := o0.below hB (by omega)
  have vo0_0 := (hB.cell (p := ⟨w2.heap.size, 0, none⟩) (by first | omega | (simp only [World.size_alloc]; omega) | (simp; done) | (simp; omega))).trans vo0_0
  have vo0_1 := (hB.cell (p := ⟨w2.heap.size, 1, none⟩) (by first | omega | (simp only [World.size_alloc]; omega) | (simp; done) | (simp; omega))).trans vo0_1
  have o1 := o1.below hB (by omega)
  have vo1_0 := (hB.cell (p := ⟨w4.heap.size, 0, none⟩) (by first | omega | (simp only [World.size_alloc]; omega) | (simp; done) | (simp; omega))).trans vo1_0
  have vo1_1 := (hB.cell (p := ⟨w4.heap.size, 1, none⟩) (by first | omega | (simp only [World.size_alloc]; omega) | (simp; done) | (simp; omega))).trans vo1_1
  have qw9 : w8.heap.size + 0 ≤ w9.heap.size := by have := hb.size; (try simp at this); omega
  have H0 := H0.trans (hB.mono (by omega))
  go_wp2_with fail
  refine (markTour_any Bo1 do1 (tRealizeScores z0) (rRealizeScores z0) 1 _ _ _ o1 (by omega) (by omega) (by omega) (by omega)).mono ?_
  rintro e w10 ⟨rfl, mo1, hg⟩
  clear o1
  have o1 := mo1
  clear mo1
  have a0 := a0.rowOnly hg (by omega) (by omega)
  have o0 := o0.only hg (by omega) (by omega)
  have vo0_0 := (hg.cell (p := ⟨w2.heap.size, 0, none⟩) (by first | omega | (simp only [World.size_alloc]; omega) | (simp; done) | (simp; omega)) (by first | (simp; done) | (simp; omega))).trans vo0_0
  have vo0_1 := (hg.cell (p := ⟨w2.heap.size, 1, none⟩) (by first | omega | (simp only [World.size_alloc]; omega) | (simp; done) | (simp; omega)) (by first | (simp; done) | (simp; omega))).trans vo0_1
  have vo1_0 := (hg.cell (p := ⟨w4.heap.size, 0, none⟩) (by first | omega | (simp only [World.size_alloc]; omega) | (simp; done) | (simp; omega)) (by first | (simp; done) | (simp; omega))).trans vo1_0
  have vo1_1 := (hg.cell (p := ⟨w4.heap.size, 1, none⟩) (by first | omega | (simp only [World.size_alloc]; omega) | (simp; done) | (simp; omega)) (by first | (simp; done) | (simp; omega))).trans vo1_1
  have qw10 : w9.heap.size ≤ w10.heap.size := hg.size
  have H0 := below_only H0 hg (by omega) (by omega)
  go_wp2_with fail
  refine (heldTour_any Bo1 do1 (rRealizeScores z0).length (tRealizeScores z0) 1 _ (o1.rowAt (by go_grown) (by omega)) (by omega) (by omega) (by omega)).mono ?_
  rintro e w11 ⟨rfl, hb⟩
  have hB : Below w10.heap.size w10 w11 := Below.trans (by go_grown) (hb.mono (by first | omega | (simp only [World.size_alloc]; omega) | (simp; done) | (simp; omega)))
  have a0 := a0.below hB (by omega)
  have o0 := o0.below hB (by omega)
  have vo0_0 := (hB.cell (p := ⟨w2.heap.size, 0, none⟩) (by first | omega | (simp only [World.size_alloc]; omega) | (simp; done) | (simp; omega))).trans vo0_0
  have vo0_1 := (hB.cell (p := ⟨w2.heap.size, 1, none⟩) (by first | omega | (simp only [World.size_alloc]; omega) | (simp; done) | (simp; omega))).trans vo0_1
  have o1 := o1.below hB (by omega)
  have vo1_0 := (hB.cell (p := ⟨w4.heap.size, 0, none⟩) (by first | omega | (simp only [World.size_alloc]; omega) | (simp; done) | (simp; omega))).trans vo1_0
  have vo1_1 := (hB.cell (p := ⟨w4.heap.size, 1, none⟩) (by first | omega | (simp only [World.size_alloc]; omega) | (simp; done) | (simp; omega))).trans vo1_1
  have qw11 : w10.heap.size + 0 ≤ w11.heap.size := by have := hb.size; (try simp at this); omega
  have H0 := H0.trans (hB.mono (by omega))
  go_wp2_with fail
  refine (toIntS_any A0 c0 z0 _ (a0.rowAt (by go_grown) (by omega)) (by omega)).mono ?_
  rintro e w12 ⟨Bp0, dp0, rfl, p0, hb⟩
  have hB : Below w11.heap.size w11 w12 := Below.trans (by go_grown) (hb.mono (by first | omega | (simp only [World.size_alloc]; omega) | (simp; done) | (simp; omega)))
  have a0 := a0.below hB (by omega)
  have o0 := o0.below hB (by omega)
  have vo0_0 := (hB.cell (p := ⟨w2.heap.size, 0, none⟩) (by first | omega | (simp only [World.size_alloc]; omega) | (simp; done) | (simp; omega))).trans vo0_0
  have vo0_1 := (hB.cell (p := ⟨w2.heap.size, 1, none⟩) (by first | omega | (simp only [World.size_alloc]; omega) | (simp; done) | (simp; omega))).trans vo0_1
  have o1 := o1.below hB (by omega)
  have vo1_0 := (hB.cell (p := ⟨w4.heap.size, 0, none⟩) (by first | omega | (simp only [World.size_alloc]; omega) | (simp; done) | (simp; omega))).trans vo1_0
  have vo1_1 := (hB.cell (p := ⟨w4.heap.size, 1, none⟩) (by first | omega | (simp only [World.size_alloc]; omega) | (simp; done) | (simp; omega))).trans vo1_1
  have qw12 : w11.heap.size + 0 ≤ w12.heap.size := by have := hb.size; (try simp at this); omega
  have H0 := H0.trans (hB.mono (by omega))
  have p0 := p0.mono (lo' := w11.heap.size + 0) (by first | omega | (simp only [World.size_alloc]; omega) | (simp; done) | (simp; omega)) (Nat.le_refl _)
  go_wp2_with fail
  refine (iRealizeScores_any Bp0 dp0 z0 _ (p0.rowAt (by go_grown) (by omega)) (by omega)).mono ?_
  rintro e w13 ⟨Bo2, do2, rfl, o2, hb⟩
  have hB : Below w12.heap.size w12 w13 := Below.trans (by go_grown) (hb.mono (by first | omega | (simp only [World.size_alloc]; omega) | (simp; done) | (simp; omega)))
  have a0 := a0.below hB (by omega)
  have o0 := o0.below hB (by omega)
  have vo0_0 := (hB.cell (p := ⟨w2.heap.size, 0, none⟩) (by first | omega | (simp only [World.size_alloc]; omega) | (simp; done) | (simp; omega))).trans vo0_0
  have vo0_1 := (hB.cell (p := ⟨w2.heap.size, 1, none⟩) (by first | omega | (simp only [World.size_alloc]; omega) | (simp; done) | (simp; omega))).trans vo0_1
  have o1 := o1.below hB (by omega)
  have vo1_0 := (hB.cell (p := ⟨w4.heap.size, 0, none⟩) (by first | omega | (simp only [World.size_alloc]; omega) | (simp; done) | (simp; omega))).trans vo1_0
  have vo1_1 := (hB.cell (p := ⟨w4.heap.size, 1, none⟩) (by first | omega | (simp only [World.size_alloc]; omega) | (simp; done) | (simp; omega))).trans vo1_1
  have p0 := p0.below hB (by omega)
  have qw13 : w12.heap.size + 0 ≤ w13.heap.size := by have := hb.size; (try simp at this); omega
  have H0 := H0.trans (hB.mono (by omega))
  have o2 := o2.mono (lo' := w12.heap.size + 0) (by first | omega | (simp only [World.size_alloc]; omega) | (simp; done) | (simp; omega)) (Nat.le_refl _)
  clear p0
  have Pvo0_0 : (w13.alloc (.cells #[.int .i64 (tRealizeScores z0), .slice Bo2 (rRealizeScores z0).length do2] 26)).cell? ⟨w2.heap.size, 0, none⟩ = _ := (World.cell?_alloc_past _ _ _ (by omega)).trans vo0_0
  have Pvo0_1 : (w13.alloc (.cells #[.int .i64 (tRealizeScores z0), .slice Bo2 (rRealizeScores z0).length do2] 26)).cell? ⟨w2.heap.size, 1, none⟩ = _ := (World.cell?_alloc_past _ _ _ (by omega)).trans vo0_1
  have Pvo1_0 : (w13.alloc (.cells #[.int .i64 (tRealizeScores z0), .slice Bo2 (rRealizeScores z0).length do2] 26)).cell? ⟨w4.heap.size, 0, none⟩ = _ := (World.cell?_alloc_past _ _ _ (by omega)).trans vo1_0
  have Pvo1_1 : (w13.alloc (.cells #[.int .i64 (tRealizeScores z0), .slice Bo2 (rRealizeScores z0).length do2] 26)).cell? ⟨w4.heap.size, 1, none⟩ = _ := (World.cell?_alloc_past _ _ _ (by omega)).trans vo1_1
  go_wp2_with fail
  clear Pvo0_0 Pvo0_1 Pvo1_0 Pvo1_1
  refine (eqTour_any Bo2 Bo0 do2 do0 (tRealizeScores z0) (rRealizeScores z0) _ (o2.rowAt (by go_grown) (by omega)) (o0.rowAt (by go_grown) (by omega)) (by omega)).mono ?_
  rintro e w14 ⟨rfl, hb⟩
  have hB : Below w13.heap.size w13 w14 := Below.trans (by go_grown) (hb.mono (by first | omega | (simp only [World.size_alloc]; omega) | (simp; done) | (simp; omega)))
  have a0 := a0.below hB (by omega)
  have o0 := o0.below hB (by omega)
  have vo0_0 := (hB.cell (p := ⟨w2.heap.size, 0, none⟩) (by first | omega | (simp only [World.size_alloc]; omega) | (simp; done) | (simp; omega))).trans vo0_0
  have vo0_1 := (hB.cell (p := ⟨w2.heap.size, 1, none⟩) (by first | omega | (simp only [World.size_alloc]; omega) | (simp; done) | (simp; omega))).trans vo0_1
  have o1 := o1.below hB (by omega)
  have vo1_0 := (hB.cell (p := ⟨w4.heap.size, 0, none⟩) (by first | omega | (simp only [World.size_alloc]; omega) | (simp; done) | (simp; omega))).trans vo1_0
  have vo1_1 := (hB.cell (p := ⟨w4.heap.size, 1, none⟩) (by first | omega | (simp only [World.size_alloc]; omega) | (simp; done) | (simp; omega))).trans vo1_1
  have o2 := o2.below hB (by omega)
  have vo2_0 : w14.cell? ⟨w13.heap.size, 0, none⟩ = some (.int .i64 (tRealizeScores z0)) := (hb.cell (p := ⟨w13.heap.size, 0, none⟩) (by first | omega | (simp only [World.size_alloc]; omega) | (simp; done) | (simp; omega))).trans (by go_simp)
  have vo2_1 : w14.cell? ⟨w13.heap.size, 1, none⟩ = some (.slice Bo2 (rRealizeScores z0).length do2) := (hb.cell (p := ⟨w13.heap.size, 1, none⟩) (by first | omega | (simp only [World.size_alloc]; omega) | (simp; done) | (simp; omega))).trans (by go_simp)
  have qw14 : w13.heap.size + 1 ≤ w14.heap.size := by have := hb.size; (try simp at this); omega
  have H0 := H0.trans (hB.mono (by omega))
  go_wp2_with fail
  refine (heldTour_any Bo1 do1 (rRealizeScores z0).length (tRealizeScores z0) 1 _ (o1.rowAt (by go_grown) (by omega)) (by omega) (by omega) (by omega)).mono ?_
  rintro e w15 ⟨rfl, hb⟩
  have hB : Below w14.heap.size w14 w15 := Below.trans (by go_grown) (hb.mono (by first | omega | (simp only [World.size_alloc]; omega) | (simp; done) | (simp; omega)))
  have a0 := a0.below hB (by omega)
  have o0 := o0.below hB (by omega)
  have vo0_0 := (hB.cell (p := ⟨w2.heap.size, 0, none⟩) (by first | omega | (simp only [World.size_alloc]; omega) | (simp; done) | (simp; omega))).trans vo0_0
  have vo0_1 := (hB.cell (p := ⟨w2.heap.size, 1, none⟩) (by first | omega | (simp only [World.size_alloc]; omega) | (simp; done) | (simp; omega))).trans vo0_1
  have o1 := o1.below hB (by omega)
  have vo1_0 := (hB.cell (p := ⟨w4.heap.size, 0, none⟩) (by first | omega | (simp only [World.size_alloc]; omega) | (simp; done) | (simp; omega))).trans vo1_0
  have vo1_1 := (hB.cell (p := ⟨w4.heap.size, 1, none⟩) (by first | omega | (simp only [World.size_alloc]; omega) | (simp; done) | (simp; omega))).trans vo1_1
  have o2 := o2.below hB (by omega)
  have vo2_0 := (hB.cell (p := ⟨w13.heap.size, 0, none⟩) (by first | omega | (simp only [World.size_alloc]; omega) | (simp; done) | (simp; omega))).trans vo2_0
  have vo2_1 := (hB.cell (p := ⟨w13.heap.size, 1, none⟩) (by first | omega | (simp only [World.size_alloc]; omega) | (simp; done) | (simp; omega))).trans vo2_1
  have qw15 : w14.heap.size + 0 ≤ w15.heap.size := by have := hb.size; (try simp at this); omega
  have H0 := H0.trans (hB.mono (by omega))
  go_wp2
  go_ret
  exact ⟨rfl, H0⟩
end Go.Proofs.Ytaocjjocncoahaa
