/- math/bits.OnesCount at numbers below 256, walked. -/
import Derived.Test.YtaocjjocncoahaaDoorLib
import Derived.Test.YtaocjjocncoahaaDoorBitOps
namespace Go.Proofs.YtaocjjocncoahaaDoor
open Go.RowKit

/-- The steps of OnesCount64. -/
def oc1 (x : Int) : Int := IntKind.u64.wrap (bits .and .u64 (x / 2) 6148914691236517205 + bits .and .u64 x 6148914691236517205)
def oc2 (x : Int) : Int := IntKind.u64.wrap (bits .and .u64 (x / 4) 3689348814741910323 + bits .and .u64 x 3689348814741910323)
def oc3 (x : Int) : Int := bits .and .u64 (IntKind.u64.wrap (x / 16 + x)) 1085102592571150095
def oc4 (x : Int) : Int := IntKind.u64.wrap (x + x / 256)
def oc5 (x : Int) : Int := IntKind.u64.wrap (x + x / 65536)
def oc6 (x : Int) : Int := IntKind.u64.wrap (x + x / 4294967296)
theorem oc_all : ((List.range 256).all fun x => (oc6 (oc5 (oc4 (oc3 (oc2 (oc1 (x : Int)))))) % 128 == ((pc 8 x : Nat) : Int)) && decide (0 ≤ oc6 (oc5 (oc4 (oc3 (oc2 (oc1 (x : Int)))))) ∧ oc6 (oc5 (oc4 (oc3 (oc2 (oc1 (x : Int)))))) < 100000000)) = true := by decide +kernel
theorem and_127 (y : Nat) (h : y < 9223372036854775808) : bits .and .i64 (y : Int) 127 = (y : Int) % 128 := by
  have e := and_nat y 127 h (by omega)
  have e2 : y &&& 127 = y % 128 := Nat.and_two_pow_sub_one_eq_mod y 7
  rw [e2] at e
  exact e
set_option maxHeartbeats 1000000 in
theorem ones64 (x : Nat) (hx : x < 256) (w : World) : Calls Tryd.prog 84 #[.int .u64 (x : Int)] w fun e w' => e = .returned (.int .i64 (pc 8 x : Nat)) ∧ w = w' := by
  have H := oc_all
  rw [List.all_eq_true] at H
  have H := H x (by rwa [List.mem_range])
  simp only [Bool.and_eq_true, beq_iff_eq, decide_eq_true_eq] at H
  obtain ⟨H, r0, r1⟩ := H
  unfold oc6 oc5 oc4 oc3 oc2 oc1 at H r0 r1
  generalize h1 : bits .and .u64 ((x : Int) / 2) 6148914691236517205 = v1 at H r0 r1
  generalize h2 : bits .and .u64 (x : Int) 6148914691236517205 = v2 at H r0 r1
  generalize h3 : IntKind.u64.wrap (v1 + v2) = v3 at H r0 r1
  generalize h4 : bits .and .u64 (v3 / 4) 3689348814741910323 = v4 at H r0 r1
  generalize h5 : bits .and .u64 v3 3689348814741910323 = v5 at H r0 r1
  generalize h6 : IntKind.u64.wrap (v4 + v5) = v6 at H r0 r1
  generalize h7 : IntKind.u64.wrap (v6 / 16 + v6) = v7 at H r0 r1
  generalize h8 : bits .and .u64 v7 1085102592571150095 = v8 at H r0 r1
  generalize h9 : IntKind.u64.wrap (v8 + v8 / 256) = v9 at H r0 r1
  generalize h10 : IntKind.u64.wrap (v9 + v9 / 65536) = v10 at H r0 r1
  generalize h11 : IntKind.u64.wrap (v10 + v10 / 4294967296) = v11 at H r0 r1
  have HH := Lib.hid H
  clear H
  go_enter Tryd.func84, Tryd.ntmps84
  go_wp2
  go_ret
  obtain ⟨y, rfl⟩ := Int.eq_ofNat_of_zero_le r0
  refine ⟨ret_int ?_, rfl⟩
  exact (and_127 y (by omega)).trans HH.out

set_option maxRecDepth 100000 in
theorem onesCount_any (x : Int) (w : World) (h0 : 0 ≤ x) (hx : x < 256) : Calls Tryd.prog 75 #[.int .u64 x] w fun e w' => e = .returned (.int .i64 (pc 8 x.toNat : Nat)) ∧ w = w' := by
  obtain ⟨n, rfl⟩ := Int.eq_ofNat_of_zero_le h0
  rw [Int.toNat_natCast]
  go_enter Tryd.func75, Tryd.ntmps75
  go_wp2_with (go_at_call 84; refine (ones64 n (by omega) _).mono ?_; rintro e w' ⟨rfl, rfl⟩)
  go_ret
  exact ⟨rfl, rfl⟩
end Go.Proofs.YtaocjjocncoahaaDoor
