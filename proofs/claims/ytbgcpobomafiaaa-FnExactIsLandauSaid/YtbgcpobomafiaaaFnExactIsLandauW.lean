/- The law FnExactIsLandau, walked: it returns true. -/
import Derived.Test.YtbgcpobomafiaaaLandau
namespace Go.Proofs.Ytbgcpobomafiaaa
open Go.RowKit
set_option linter.unusedVariables false in
set_option maxHeartbeats 1600000 in
theorem walkFnExactIsLandau (A0 : Option Addr) (c0 : Nat) (z0 : List Int) (w : World) (h0 : z0.length ≤ 9223372036854775807) (a0 : Row w w.heap.size A0 (ints z0)) :
    Calls Try.prog 5 #[.slice A0 z0.length c0] w fun e w' => e = .returned (.bool true) ∧ Below w.heap.size w w' := by
  by_cases g0 : 1048576 < z0.length
  · go_enter Try.func5, Try.ntmps5
    go_wp2
    go_ret
    exact ⟨rfl, by go_grown⟩
  have g0 : z0.length ≤ 1048576 := by omega
  go_enter Try.func5, Try.ntmps5
  go_wp2_with fail
  refine (toIntS_any A0 c0 z0 _ (a0.rowAt (by go_grown) (by omega)) (by omega)).mono ?_
  rintro e w1 ⟨Bp0, dp0, rfl, p0, hb⟩
  have hB : Below w.heap.size w w1 := Below.trans (by go_grown) (hb.mono (by simp; try omega))
  have a0 := a0.below hB (by omega)
  have qw1 : w.heap.size + 0 ≤ w1.heap.size := by have := hb.size; (try simp at this); omega
  have H0 := hB
  have p0 := p0.mono (lo' := w.heap.size) (by simp; try omega) (Nat.le_refl _)
  go_wp2_with fail
  refine (sIsLandau_any Bp0 dp0 z0 _ (p0.rowAt (by go_grown) (by omega)) (by omega)).mono ?_
  rintro e w2 ⟨rfl, hb⟩
  have hB : Below w1.heap.size w1 w2 := Below.trans (by go_grown) (hb.mono (by simp; try omega))
  have a0 := a0.below hB (by omega)
  have p0 := p0.below hB (by omega)
  have qw2 : w1.heap.size + 0 ≤ w2.heap.size := by have := hb.size; (try simp at this); omega
  have H0 := H0.trans (hB.mono (by omega))
  clear p0
  go_wp2_with fail
  refine (toIntS_any A0 c0 z0 _ (a0.rowAt (by go_grown) (by omega)) (by omega)).mono ?_
  rintro e w3 ⟨Be0, de0, rfl, e0, hb⟩
  have hB : Below w2.heap.size w2 w3 := Below.trans (by go_grown) (hb.mono (by simp; try omega))
  have a0 := a0.below hB (by omega)
  have qw3 : w2.heap.size + 0 ≤ w3.heap.size := by have := hb.size; (try simp at this); omega
  have H0 := H0.trans (hB.mono (by omega))
  have e0 := e0.mono (lo' := w2.heap.size) (by simp; try omega) (Nat.le_refl _)
  go_wp2_with fail
  refine (iIsLandau_any Be0 de0 z0 _ (e0.rowAt (by go_grown) (by omega)) (by omega)).mono ?_
  rintro e w4 ⟨rfl, hb⟩
  have hB : Below w3.heap.size w3 w4 := Below.trans (by go_grown) (hb.mono (by simp; try omega))
  have a0 := a0.below hB (by omega)
  have e0 := e0.below hB (by omega)
  have qw4 : w3.heap.size + 0 ≤ w4.heap.size := by have := hb.size; (try simp at this); omega
  have H0 := H0.trans (hB.mono (by omega))
  go_wp2_with fail
  refine (toIntS_any A0 c0 z0 _ (a0.rowAt (by go_grown) (by omega)) (by omega)).mono ?_
  rintro e w5 ⟨Bf0, df0, rfl, f0, hb⟩
  have hB : Below w4.heap.size w4 w5 := Below.trans (by go_grown) (hb.mono (by simp; try omega))
  have a0 := a0.below hB (by omega)
  have e0 := e0.below hB (by omega)
  have qw5 : w4.heap.size + 0 ≤ w5.heap.size := by have := hb.size; (try simp at this); omega
  have H0 := H0.trans (hB.mono (by omega))
  have f0 := f0.mono (lo' := w4.heap.size) (by simp; try omega) (Nat.le_refl _)
  go_wp2_with fail
  refine (eqIntS_any Be0 Bf0 de0 df0 z0 _ (e0.rowAt (by go_grown) (by omega)) (f0.rowAt (by go_grown) (by omega)) (by omega)).mono ?_
  rintro e w6 ⟨rfl, hb⟩
  have hB : Below w5.heap.size w5 w6 := Below.trans (by go_grown) (hb.mono (by simp; try omega))
  have a0 := a0.below hB (by omega)
  have e0 := e0.below hB (by omega)
  have f0 := f0.below hB (by omega)
  have qw6 : w5.heap.size + 0 ≤ w6.heap.size := by have := hb.size; (try simp at this); omega
  have H0 := H0.trans (hB.mono (by omega))
  clear f0
  go_wp2
  go_ret
  exact ⟨rfl, H0⟩
end Go.Proofs.Ytbgcpobomafiaaa
