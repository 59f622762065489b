/- isTriangle and IsTriangle, walked. -/
import Derived.Test.YtaocjjocncoahaaIsT
import Derived.Deep.RegionHeld3
namespace Go.Proofs.Ytaocjjocncoahaa
open Go.RowKit

/-- Three players, the least ahead, who beat each other in a ring. -/
def triB (W : List Nat) : List Int → Bool
  | [x, y, z] => allIn 0 ((W.length : Int) - 1) [x, y, z] && (decide (x < y) && decide (x < z) && bt W x.toNat y.toNat && bt W y.toNat z.toNat && bt W z.toNat x.toNat)
  | _ => false
theorem triB_eq (W : List Nat) (x y z : Int) : triB W [x, y, z] = (allIn 0 ((W.length : Int) - 1) [x, y, z] && (decide (x < y) && decide (x < z) && bt W x.toNat y.toNat && bt W y.toNat z.toNat && bt W z.toNat x.toNat)) := rfl
theorem triB_len (W : List Nat) (ts : List Int) (h : ts.length ≠ 3) : triB W ts = false := by
  match ts with
  | [] => rfl
  | [_] => rfl
  | [_, _] => rfl
  | [_, _, _] => exact absurd rfl h
  | _ :: _ :: _ :: _ :: _ => rfl
theorem three (ts : List Int) (h : ts.length = 3) : ∃ x y z, ts = [x, y, z] := by
  match ts with
  | [x, y, z] => exact ⟨x, y, z, rfl⟩
theorem Row.three {w : World} {B : Nat} {A : Option Addr} {x y z : Int} (h : Row w B A (ints [x, y, z])) :
    ∃ b off, A = some ⟨b, off, none⟩ ∧ b < B ∧ w.cell? ⟨b, off, none⟩ = some (.int .i64 x) ∧ w.cell? ⟨b, off + 1, none⟩ = some (.int .i64 y) ∧ w.cell? ⟨b, off + 2, none⟩ = some (.int .i64 z) := by
  obtain ⟨b, off, e, hb, hc⟩ := h (by simp [ints])
  exact ⟨b, off, e, hb, hc 0 _ rfl, hc 1 _ rfl, hc 2 _ rfl⟩
/-- Of three players in range: what is asked of them. -/
theorem triB_nat (W : List Nat) (i j k : Nat) (hi : i < W.length) (hj : j < W.length) (hk : k < W.length) : triB W [(i : Int), j, k] = (decide (i < j) && decide (i < k) && bt W i j && bt W j k && bt W k i) := by
  have ha : allIn 0 ((W.length : Int) - 1) [(i : Int), j, k] = true := by
    unfold allIn
    simp
    omega
  rw [triB_eq, ha, Bool.true_and, Int.toNat_natCast, Int.toNat_natCast, Int.toNat_natCast]
  simp

theorem iTourOkW (A : Option Addr) (c : Nat) (W : List Nat) (w : World) (hT : IsT W) (h : Row w w.heap.size A (ints (casts W))) :
    Calls Try.prog 50 #[.agg #[.int .i64 (W.length : Int), .slice A W.length c]] w fun e w' => e = .returned (.bool true) ∧ Below w.heap.size w w' := by
  have g8 := hT.h8
  have := iTourOk_any A c (W.length : Int) (casts W) w h (by rw [casts_length]; omega)
  rwa [tour_ok hT, casts_length] at this
theorem beatsW_any (A : Option Addr) (c : Nat) (W : List Nat) (a b : Nat) (v : Bool) (hv : bt W a b = v) (w : World) (hT : IsT W) (h : Row w w.heap.size A (ints (casts W))) (ha : a < W.length) (hb : b < W.length) :
    Calls Try.prog 80 #[.agg #[.int .i64 (W.length : Int), .slice A W.length c], .int .i64 (a : Int), .int .i64 (b : Int)] w fun e w' => e = .returned (.bool v) ∧ Below w.heap.size w w' := by
  have g8 := hT.h8
  have g := hT.lt256 a
  have hcall := beats_any A c (W.length : Int) (casts W) (a : Int) (b : Int) w h (by omega) (by rw [casts_length]; omega) (by omega) (by omega) (by rw [Int.toNat_natCast, casts_getD]; omega) (by rw [Int.toNat_natCast, casts_getD]; omega)
  rw [Int.toNat_natCast, Int.toNat_natCast, bit_casts, hv, casts_length] at hcall
  exact hcall
/-- What both functions IsTriangle answer. -/
def rIsTriangle (s : Int) (zs : List Int) (ts : List Int) : Bool := if okB s zs then triB (toW zs) ts else false
end Go.Proofs.Ytaocjjocncoahaa
