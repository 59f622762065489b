/- The functions choose and MostTriangles, walked. -/
import Derived.Test.YtaocjjocncoahaaDoorSmall
namespace Go.Proofs.YtaocjjocncoahaaDoor
open Go.RowKit

/-- n (n - 1) / 2 and n (n - 1) (n - 2) / 6. -/
def choose2 (n : Nat) : Nat := n * (n - 1) / 2
def choose3 (n : Nat) : Nat := n * (n - 1) * (n - 2) / 6

theorem eight (x : Int) (h0 : 0 ≤ x) (hx : x ≤ 8) : x = 0 ∨ x = 1 ∨ x = 2 ∨ x = 3 ∨ x = 4 ∨ x = 5 ∨ x = 6 ∨ x = 7 ∨ x = 8 := by omega
theorem choose2_le (n : Nat) (hn : n ≤ 8) : choose2 n ≤ 28 := by
  have h : n = 0 ∨ n = 1 ∨ n = 2 ∨ n = 3 ∨ n = 4 ∨ n = 5 ∨ n = 6 ∨ n = 7 ∨ n = 8 := by omega
  rcases h with rfl | rfl | rfl | rfl | rfl | rfl | rfl | rfl | rfl <;> decide
theorem choose3_le (n : Nat) (hn : n ≤ 8) : choose3 n ≤ 56 := by
  have h : n = 0 ∨ n = 1 ∨ n = 2 ∨ n = 3 ∨ n = 4 ∨ n = 5 ∨ n = 6 ∨ n = 7 ∨ n = 8 := by omega
  rcases h with rfl | rfl | rfl | rfl | rfl | rfl | rfl | rfl | rfl <;> decide
end Go.Proofs.YtaocjjocncoahaaDoor
