/- The law FnExactSlackOf, walked: it returns true. -/
import Derived.Test.YtbgcpobomafiaaaSlack
namespace Go.Proofs.Ytbgcpobomafiaaa
open Go.RowKit
set_option linter.unusedVariables false in
set_option maxHeartbeats 1600000 in
theorem walkFnExactSlackOf (A0 : Option Addr) (c0 : Nat) (z0 : List Int) (w : World) (h0 : z0.length ≤ 9223372036854775807) (a0 : Row w w.heap.size A0 (ints z0)) :
    Calls Try.prog 4 #[.slice A0 z0.length c0] w fun e w' => e = .returned (.bool true) ∧ Below w.heap.size w w' := by
  by_cases g0 : 1048576 < z0.length
  · go_enter Try.func4, Try.ntmps4
    go_wp2
    go_ret
    exact ⟨rfl, by go_grown⟩
  have g0 : z0.length ≤ 1048576 := by omega
  have hR := rSlackOf_len z0
  go_enter Try.func4, Try.ntmps4
  go_wp2_with fail
  refine (toIntS_any A0 c0 z0 _ (a0.rowAt (by go_grown) (by omega)) (by omega)).mono ?_
  rintro e w1 ⟨Bp0, dp0, rfl, p0, hb⟩
  have hB : Below w.heap.size w w1 := Below.trans (by go_grown) (hb.mono (by simp; try omega))
  have a0 := a0.below hB (by omega)
  have qw1 : w.heap.size + 0 ≤ w1.heap.size := by have := hb.size; (try simp at this); omega
  have H0 := hB
  have p0 := p0.mono (lo' := w.heap.size) (by simp; try omega) (Nat.le_refl _)
  go_wp2_with fail
  refine (sSlackOf_any Bp0 dp0 z0 _ (p0.rowAt (by go_grown) (by omega)) (by omega)).mono ?_
  rintro e w2 ⟨Bo0, do0, rfl, o0, hb⟩
  have hB : Below w1.heap.size w1 w2 := Below.trans (by go_grown) (hb.mono (by simp; try omega))
  have a0 := a0.below hB (by omega)
  have p0 := p0.below hB (by omega)
  have qw2 : w1.heap.size + 0 ≤ w2.heap.size := by have := hb.size; (try simp at this); omega
  have H0 := H0.trans (hB.mono (by omega))
  have o0 := o0.mono (lo' := w1.heap.size) (by simp; try omega) (Nat.le_refl _)
  clear p0
  go_wp2_with fail
  refine (toIntS_any A0 c0 z0 _ (a0.rowAt (by go_grown) (by omega)) (by omega)).mono ?_
  rintro e w3 ⟨Be0, de0, rfl, e0, hb⟩
  have hB : Below w2.heap.size w2 w3 := Below.trans (by go_grown) (hb.mono (by simp; try omega))
  have a0 := a0.below hB (by omega)
  have o0 := o0.below hB (by omega)
  have qw3 : w2.heap.size + 0 ≤ w3.heap.size := by have := hb.size; (try simp at this); omega
  have H0 := H0.trans (hB.mono (by omega))
  have e0 := e0.mono (lo' := w2.heap.size) (by simp; try omega) (Nat.le_refl _)
  go_wp2_with fail
  refine (iSlackOf_any Be0 de0 z0 _ (e0.rowAt (by go_grown) (by omega)) (by omega)).mono ?_
  rintro e w4 ⟨Bo1, do1, rfl, o1, hb⟩
  have hB : Below w3.heap.size w3 w4 := Below.trans (by go_grown) (hb.mono (by simp; try omega))
  have a0 := a0.below hB (by omega)
  have o0 := o0.below hB (by omega)
  have e0 := e0.below hB (by omega)
  have qw4 : w3.heap.size + 0 ≤ w4.heap.size := by have := hb.size; (try simp at this); omega
  have H0 := H0.trans (hB.mono (by omega))
  have o1 := o1.mono (lo' := w3.heap.size) (by simp; try omega) (Nat.le_refl _)
  go_wp2_with fail
  refine (eqIntS_any Bo1 Bo0 do1 do0 (rSlackOf z0) _ (o1.rowAt (by go_grown) (by omega)) (o0.rowAt (by go_grown) (by omega)) (by omega)).mono ?_
  rintro e w5 ⟨rfl, hb⟩
  have hB : Below w4.heap.size w4 w5 := Below.trans (by go_grown) (hb.mono (by simp; try omega))
  have a0 := a0.below hB (by omega)
  have o0 := o0.below hB (by omega)
  have e0 := e0.below hB (by omega)
  have o1 := o1.below hB (by omega)
  have qw5 : w4.heap.size + 0 ≤ w5.heap.size := by have := hb.size; (try simp at this); omega
  have H0 := H0.trans (hB.mono (by omega))
  go_wp2_with fail
  refine (toIntS_any A0 c0 z0 _ (a0.rowAt (by go_grown) (by omega)) (by omega)).mono ?_
  rintro e w6 ⟨Bf0, df0, rfl, f0, hb⟩
  have hB : Below w5.heap.size w5 w6 := Below.trans (by go_grown) (hb.mono (by simp; try omega))
  have a0 := a0.below hB (by omega)
  have o0 := o0.below hB (by omega)
  have e0 := e0.below hB (by omega)
  have o1 := o1.below hB (by omega)
  have qw6 : w5.heap.size + 0 ≤ w6.heap.size := by have := hb.size; (try simp at this); omega
  have H0 := H0.trans (hB.mono (by omega))
  have f0 := f0.mono (lo' := w5.heap.size) (by simp; try omega) (Nat.le_refl _)
  go_wp2_with fail
  refine (eqIntS_any Be0 Bf0 de0 df0 z0 _ (e0.rowAt (by go_grown) (by omega)) (f0.rowAt (by go_grown) (by omega)) (by omega)).mono ?_
  rintro e w7 ⟨rfl, hb⟩
  have hB : Below w6.heap.size w6 w7 := Below.trans (by go_grown) (hb.mono (by simp; try omega))
  have a0 := a0.below hB (by omega)
  have o0 := o0.below hB (by omega)
  have e0 := e0.below hB (by omega)
  have o1 := o1.below hB (by omega)
  have f0 := f0.below hB (by omega)
  have qw7 : w6.heap.size + 0 ≤ w7.heap.size := by have := hb.size; (try simp at this); omega
  have H0 := H0.trans (hB.mono (by omega))
  clear f0
  go_wp2_with fail
  refine (markIntS_any Be0 de0 z0 1 _ _ _ e0 (by omega) (by omega) (by omega)).mono ?_
  rintro e w8 ⟨rfl, me0, hg⟩
  clear e0
  have e0 := me0
  clear me0
  have a0 := a0.rowOnly hg (by omega) (by omega)
  have o0 := o0.only hg (by omega) (by omega)
  have o1 := o1.only hg (by omega) (by omega)
  have qw8 : w7.heap.size ≤ w8.heap.size := hg.size
  have H0 := below_only H0 hg (by omega) (by omega)
  clear e0
  go_wp2_with fail
  refine (eqIntS_any Bo1 Bo0 do1 do0 (rSlackOf z0) _ (o1.rowAt (by go_grown) (by omega)) (o0.rowAt (by go_grown) (by omega)) (by omega)).mono ?_
  rintro e w9 ⟨rfl, hb⟩
  have hB : Below w8.heap.size w8 w9 := Below.trans (by go_grown) (hb.mono (by simp; try omega))
  have a0 := a0.below hB (by omega)
  have o0 := o0.below hB (by omega)
  have o1 := o1.below hB (by omega)
  have qw9 : w8.heap.size + 0 ≤ w9.heap.size := by have := hb.size; (try simp at this); omega
  have H0 := H0.trans (hB.mono (by omega))
  go_wp2_with fail
  refine (markIntS_any Bo1 do1 (rSlackOf z0) 1 _ _ _ o1 (by omega) (by omega) (by omega)).mono ?_
  rintro e w10 ⟨rfl, mo1, hg⟩
  clear o1
  have o1 := mo1
  clear mo1
  have a0 := a0.rowOnly hg (by omega) (by omega)
  have o0 := o0.only hg (by omega) (by omega)
  have qw10 : w9.heap.size ≤ w10.heap.size := hg.size
  have H0 := below_only H0 hg (by omega) (by omega)
  go_wp2_with fail
  refine (heldIntS_any Bo1 do1 (rSlackOf z0).length 1 _ (o1.rowAt (by go_grown) (by omega)) (by omega) (by omega) (by omega)).mono ?_
  rintro e _ ⟨rfl, rfl⟩
  go_wp2_with fail
  refine (toIntS_any A0 c0 z0 _ (a0.rowAt (by go_grown) (by omega)) (by omega)).mono ?_
  rintro e w11 ⟨Bp0, dp0, rfl, p0, hb⟩
  have hB : Below w10.heap.size w10 w11 := Below.trans (by go_grown) (hb.mono (by simp; try omega))
  have a0 := a0.below hB (by omega)
  have o0 := o0.below hB (by omega)
  have o1 := o1.below hB (by omega)
  have qw11 : w10.heap.size + 0 ≤ w11.heap.size := by have := hb.size; (try simp at this); omega
  have H0 := H0.trans (hB.mono (by omega))
  have p0 := p0.mono (lo' := w10.heap.size) (by simp; try omega) (Nat.le_refl _)
  go_wp2_with fail
  refine (iSlackOf_any Bp0 dp0 z0 _ (p0.rowAt (by go_grown) (by omega)) (by omega)).mono ?_
  rintro e w12 ⟨Bo2, do2, rfl, o2, hb⟩
  have hB : Below w11.heap.size w11 w12 := Below.trans (by go_grown) (hb.mono (by simp; try omega))
  have a0 := a0.below hB (by omega)
  have o0 := o0.below hB (by omega)
  have o1 := o1.below hB (by omega)
  have p0 := p0.below hB (by omega)
  have qw12 : w11.heap.size + 0 ≤ w12.heap.size := by have := hb.size; (try simp at this); omega
  have H0 := H0.trans (hB.mono (by omega))
  have o2 := o2.mono (lo' := w11.heap.size) (by simp; try omega) (Nat.le_refl _)
  clear p0
  go_wp2_with fail
  refine (eqIntS_any Bo2 Bo0 do2 do0 (rSlackOf z0) _ (o2.rowAt (by go_grown) (by omega)) (o0.rowAt (by go_grown) (by omega)) (by omega)).mono ?_
  rintro e w13 ⟨rfl, hb⟩
  have hB : Below w12.heap.size w12 w13 := Below.trans (by go_grown) (hb.mono (by simp; try omega))
  have a0 := a0.below hB (by omega)
  have o0 := o0.below hB (by omega)
  have o1 := o1.below hB (by omega)
  have o2 := o2.below hB (by omega)
  have qw13 : w12.heap.size + 0 ≤ w13.heap.size := by have := hb.size; (try simp at this); omega
  have H0 := H0.trans (hB.mono (by omega))
  go_wp2_with fail
  refine (heldIntS_any Bo1 do1 (rSlackOf z0).length 1 _ (o1.rowAt (by go_grown) (by omega)) (by omega) (by omega) (by omega)).mono ?_
  rintro e _ ⟨rfl, rfl⟩
  go_wp2
  go_ret
  exact ⟨rfl, H0⟩
end Go.Proofs.Ytbgcpobomafiaaa
