/- isTriangle and IsTriangle, walked. math/bits.OnesCount at numbers below 256, walked. The functions choose and MostTriangles, walked. -/
import Derived.Test.YtaocjjocncoahaaIsT
import Derived.Deep.RegionHeld3
import Derived.Test.YtaocjjocncoahaaLib
import Derived.Test.YtaocjjocncoahaaMg10
import Derived.Test.YtaocjjocncoahaaSmall
namespace Go.Proofs.Ytaocjjocncoahaa
open Go.RowKit

/-- Three players, the least ahead, who beat each other in a ring. -/
def triB (W : List Nat) : List Int → Bool
  | [x, y, z] => allIn 0 ((W.length : Int) - 1) [x, y, z] && (decide (x < y) && decide (x < z) && bt W x.toNat y.toNat && bt W y.toNat z.toNat && bt W z.toNat x.toNat)
  | _ => false
theorem triB_eq (W : List Nat) (x y z : Int) : triB W [x, y, z] = (allIn 0 ((W.length : Int) - 1) [x, y, z] && (decide (x < y) && decide (x < z) && bt W x.toNat y.toNat && bt W y.toNat z.toNat && bt W z.toNat x.toNat)) := rfl
theorem triB_len (W : List Nat) (ts : List Int) (h : ts.length ≠ 3) : triB W ts = false := by
  match ts with
  | [] => rfl
  | [_] => rfl
  | [_, _] => rfl
  | [_, _, _] => exact absurd rfl h
  | _ :: _ :: _ :: _ :: _ => rfl
theorem three (ts : List Int) (h : ts.length = 3) : ∃ x y z, ts = [x, y, z] := by
  match ts with
  | [x, y, z] => exact ⟨x, y, z, rfl⟩
theorem Row.three {w : World} {B : Nat} {A : Option Addr} {x y z : Int} (h : Row w B A (ints [x, y, z])) :
    ∃ b off, A = some ⟨b, off, none⟩ ∧ b < B ∧ w.cell? ⟨b, off, none⟩ = some (.int .i64 x) ∧ w.cell? ⟨b, off + 1, none⟩ = some (.int .i64 y) ∧ w.cell? ⟨b, off + 2, none⟩ = some (.int .i64 z) := by
  obtain ⟨b, off, e, hb, hc⟩ := h (by simp [ints])
  exact ⟨b, off, e, hb, hc 0 _ rfl, hc 1 _ rfl, hc 2 _ rfl⟩
/-- Of three players in range: what is asked of them. -/
theorem triB_nat (W : List Nat) (i j k : Nat) (hi : i < W.length) (hj : j < W.length) (hk : k < W.length) : triB W [(i : Int), j, k] = (decide (i < j) && decide (i < k) && bt W i j && bt W j k && bt W k i) := by
  have ha : allIn 0 ((W.length : Int) - 1) [(i : Int), j, k] = true := by
    unfold allIn
    simp
    omega
  rw [triB_eq, ha, Bool.true_and, Int.toNat_natCast, Int.toNat_natCast, Int.toNat_natCast]
  simp

theorem iTourOkW (A : Option Addr) (c : Nat) (W : List Nat) (w : World) (hT : IsT W) (h : Row w w.heap.size A (ints (casts W))) :
    Calls Try.prog 50 #[.agg #[.int .i64 (W.length : Int), .slice A W.length c]] w fun e w' => e = .returned (.bool true) ∧ Below w.heap.size w w' := by
  have g8 := hT.h8
  have := iTourOk_any A c (W.length : Int) (casts W) w h (by rw [casts_length]; omega)
  rwa [tour_ok hT, casts_length] at this
theorem beatsW_any (A : Option Addr) (c : Nat) (W : List Nat) (a b : Nat) (v : Bool) (hv : bt W a b = v) (w : World) (hT : IsT W) (h : Row w w.heap.size A (ints (casts W))) (ha : a < W.length) (hb : b < W.length) :
    Calls Try.prog 80 #[.agg #[.int .i64 (W.length : Int), .slice A W.length c], .int .i64 (a : Int), .int .i64 (b : Int)] w fun e w' => e = .returned (.bool v) ∧ Below w.heap.size w w' := by
  have g8 := hT.h8
  have g := hT.lt256 a
  have hcall := beats_any A c (W.length : Int) (casts W) (a : Int) (b : Int) w h (by omega) (by rw [casts_length]; omega) (by omega) (by omega) (by rw [Int.toNat_natCast, casts_getD]; omega) (by rw [Int.toNat_natCast, casts_getD]; omega)
  rw [Int.toNat_natCast, Int.toNat_natCast, bit_casts, hv, casts_length] at hcall
  exact hcall
/-- What both functions IsTriangle answer. -/
def rIsTriangle (s : Int) (zs : List Int) (ts : List Int) : Bool := if okB s zs then triB (toW zs) ts else false
end Go.Proofs.Ytaocjjocncoahaa

namespace Go.Proofs.Ytaocjjocncoahaa
open Go.RowKit

/-- The steps of OnesCount64. -/
def oc1 (x : Int) : Int := IntKind.u64.wrap (bits .and .u64 (x / 2) 6148914691236517205 + bits .and .u64 x 6148914691236517205)
def oc2 (x : Int) : Int := IntKind.u64.wrap (bits .and .u64 (x / 4) 3689348814741910323 + bits .and .u64 x 3689348814741910323)
def oc3 (x : Int) : Int := bits .and .u64 (IntKind.u64.wrap (x / 16 + x)) 1085102592571150095
def oc4 (x : Int) : Int := IntKind.u64.wrap (x + x / 256)
def oc5 (x : Int) : Int := IntKind.u64.wrap (x + x / 65536)
def oc6 (x : Int) : Int := IntKind.u64.wrap (x + x / 4294967296)
theorem oc_all : ((List.range 256).all fun x => (oc6 (oc5 (oc4 (oc3 (oc2 (oc1 (x : Int)))))) % 128 == ((pc 8 x : Nat) : Int)) && decide (0 ≤ oc6 (oc5 (oc4 (oc3 (oc2 (oc1 (x : Int)))))) ∧ oc6 (oc5 (oc4 (oc3 (oc2 (oc1 (x : Int)))))) < 100000000)) = true := by decide +kernel
theorem and_127 (y : Nat) (h : y < 9223372036854775808) : bits .and .i64 (y : Int) 127 = (y : Int) % 128 := by
  have e := and_nat y 127 h (by omega)
  have e2 : y &&& 127 = y % 128 := Nat.and_two_pow_sub_one_eq_mod y 7
  rw [e2] at e
  exact e
set_option maxHeartbeats 1000000 in
theorem ones64 (x : Nat) (hx : x < 256) (w : World) : Calls Try.prog 67 #[.int .u64 (x : Int)] w fun e w' => e = .returned (.int .i64 (pc 8 x : Nat)) ∧ w = w' := by
  have H := oc_all
  rw [List.all_eq_true] at H
  have H := H x (by rwa [List.mem_range])
  simp only [Bool.and_eq_true, beq_iff_eq, decide_eq_true_eq] at H
  obtain ⟨H, r0, r1⟩ := H
  unfold oc6 oc5 oc4 oc3 oc2 oc1 at H r0 r1
  generalize h1 : bits .and .u64 ((x : Int) / 2) 6148914691236517205 = v1 at H r0 r1
  generalize h2 : bits .and .u64 (x : Int) 6148914691236517205 = v2 at H r0 r1
  generalize h3 : IntKind.u64.wrap (v1 + v2) = v3 at H r0 r1
  generalize h4 : bits .and .u64 (v3 / 4) 3689348814741910323 = v4 at H r0 r1
  generalize h5 : bits .and .u64 v3 3689348814741910323 = v5 at H r0 r1
  generalize h6 : IntKind.u64.wrap (v4 + v5) = v6 at H r0 r1
  generalize h7 : IntKind.u64.wrap (v6 / 16 + v6) = v7 at H r0 r1
  generalize h8 : bits .and .u64 v7 1085102592571150095 = v8 at H r0 r1
  generalize h9 : IntKind.u64.wrap (v8 + v8 / 256) = v9 at H r0 r1
  generalize h10 : IntKind.u64.wrap (v9 + v9 / 65536) = v10 at H r0 r1
  generalize h11 : IntKind.u64.wrap (v10 + v10 / 4294967296) = v11 at H r0 r1
  have HH := Lib.hid H
  clear H
  go_enter Try.func67, Try.ntmps67
  go_wp2
  go_ret
  obtain ⟨y, rfl⟩ := Int.eq_ofNat_of_zero_le r0
  refine ⟨ret_int ?_, rfl⟩
  exact (and_127 y (by omega)).trans HH.out

set_option maxRecDepth 100000 in
theorem onesCount_any (x : Int) (w : World) (h0 : 0 ≤ x) (hx : x < 256) : Calls Try.prog 35 #[.int .u64 x] w fun e w' => e = .returned (.int .i64 (pc 8 x.toNat : Nat)) ∧ w = w' := by
  obtain ⟨n, rfl⟩ := Int.eq_ofNat_of_zero_le h0
  rw [Int.toNat_natCast]
  go_enter Try.func35, Try.ntmps35
  go_wp2_with (go_at_call 67; refine (ones64 n (by omega) _).mono ?_; rintro e w' ⟨rfl, rfl⟩)
  go_ret
  exact ⟨rfl, rfl⟩
end Go.Proofs.Ytaocjjocncoahaa

namespace Go.Proofs.Ytaocjjocncoahaa
open Go.RowKit

/-- n (n - 1) / 2 and n (n - 1) (n - 2) / 6. -/
def choose2 (n : Nat) : Nat := n * (n - 1) / 2
def choose3 (n : Nat) : Nat := n * (n - 1) * (n - 2) / 6

theorem eight (x : Int) (h0 : 0 ≤ x) (hx : x ≤ 8) : x = 0 ∨ x = 1 ∨ x = 2 ∨ x = 3 ∨ x = 4 ∨ x = 5 ∨ x = 6 ∨ x = 7 ∨ x = 8 := by omega
theorem choose2_any (x : Int) (w : World) (h0 : 0 ≤ x) (hx : x ≤ 8) : Calls Try.prog 56 #[.int .i64 x, .int .i64 2] w fun e w' => e = .returned (.int .i64 (choose2 x.toNat : Nat)) ∧ w = w' := by
  rcases eight x h0 hx with rfl | rfl | rfl | rfl | rfl | rfl | rfl | rfl | rfl
  all_goals
    go_enter Try.func56, Try.ntmps56
    go_wp2
    try go_rounds 3
    go_ret
    exact ⟨rfl, rfl⟩
theorem choose3_any (x : Int) (w : World) (h0 : 0 ≤ x) (hx : x ≤ 8) : Calls Try.prog 56 #[.int .i64 x, .int .i64 3] w fun e w' => e = .returned (.int .i64 (choose3 x.toNat : Nat)) ∧ w = w' := by
  rcases eight x h0 hx with rfl | rfl | rfl | rfl | rfl | rfl | rfl | rfl | rfl
  all_goals
    go_enter Try.func56, Try.ntmps56
    go_wp2
    try go_rounds 4
    go_ret
    exact ⟨rfl, rfl⟩
theorem choose2_le (n : Nat) (hn : n ≤ 8) : choose2 n ≤ 28 := by
  have h : n = 0 ∨ n = 1 ∨ n = 2 ∨ n = 3 ∨ n = 4 ∨ n = 5 ∨ n = 6 ∨ n = 7 ∨ n = 8 := by omega
  rcases h with rfl | rfl | rfl | rfl | rfl | rfl | rfl | rfl | rfl <;> decide
theorem choose3_le (n : Nat) (hn : n ≤ 8) : choose3 n ≤ 56 := by
  have h : n = 0 ∨ n = 1 ∨ n = 2 ∨ n = 3 ∨ n = 4 ∨ n = 5 ∨ n = 6 ∨ n = 7 ∨ n = 8 := by omega
  rcases h with rfl | rfl | rfl | rfl | rfl | rfl | rfl | rfl | rfl <;> decide
end Go.Proofs.Ytaocjjocncoahaa
