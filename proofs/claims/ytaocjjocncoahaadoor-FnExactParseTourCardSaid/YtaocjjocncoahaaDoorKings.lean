/- Kings: isKing, kings, KingsOf and the reference's, walked. -/
import Derived.Test.YtaocjjocncoahaaDoorDom
namespace Go.Proofs.YtaocjjocncoahaaDoor
open Go.RowKit

/-- A player is a king. -/
def kg (W : List Nat) (a : Nat) : Bool := uni W (2 ^ a ||| W.getD a 0) (mem 8 (W.getD a 0)) == 2 ^ W.length - 1
/-- The set of all kings. -/
def kingsN (W : List Nat) : Nat := ofB W.length (kg W)

theorem pow_small (k : Nat) (h : k < 8) : (1 : Int) ≤ 2 ^ k ∧ (2 : Int) ^ k ≤ 128 := by
  have h : k = 0 ∨ k = 1 ∨ k = 2 ∨ k = 3 ∨ k = 4 ∨ k = 5 ∨ k = 6 ∨ k = 7 := by omega
  rcases h with rfl | rfl | rfl | rfl | rfl | rfl | rfl | rfl <;> decide
theorem or_pow (k y : Nat) (h : k < 8) (hy : y < 256) : bits .or .i64 ((2 : Int) ^ k) (y : Int) = ((2 ^ k ||| y : Nat) : Int) := by
  have := pow_small k h
  rw [pow_cast] at *
  rw [or_nat _ _ (by omega) (by omega)]
theorem or_pow' (k y : Nat) (h : k < 8) (hy : y < 256) : bits .or .i64 (y : Int) ((2 : Int) ^ k) = ((2 ^ k ||| y : Nat) : Int) := by
  have := pow_small k h
  rw [pow_cast] at *
  rw [or_nat _ _ (by omega) (by omega), Nat.or_comm]
theorem start_lt (W : List Nat) (hT : IsT W) (k : Nat) (hk : k < W.length) : 2 ^ k ||| W.getD k 0 < 2 ^ W.length :=
  Nat.or_lt_two_pow (Nat.pow_lt_pow_right (by omega) hk) (hT.lt k)

theorem ofB_le (n k : Nat) (f : Nat → Bool) (hk : k ≤ n) (hn : n ≤ 8) : ofB k f < 256 :=
  Nat.lt_of_lt_of_le (ofB_lt k f) (pow_le8 k (by omega))

/-- What both functions KingsOf answer. -/
def rKingsOf (s : Int) (zs : List Int) : Int := if okB s zs then (kingsN (toW zs) : Nat) else 0

end Go.Proofs.YtaocjjocncoahaaDoor
