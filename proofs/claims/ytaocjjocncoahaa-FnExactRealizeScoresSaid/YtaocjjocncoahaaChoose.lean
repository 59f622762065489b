/- The functions choose and MostTriangles, walked. -/
import Derived.Test.YtaocjjocncoahaaSmall
namespace Go.Proofs.Ytaocjjocncoahaa
open Go.RowKit

/-- n (n - 1) / 2 and n (n - 1) (n - 2) / 6. -/
def choose2 (n : Nat) : Nat := n * (n - 1) / 2
def choose3 (n : Nat) : Nat := n * (n - 1) * (n - 2) / 6

theorem eight (x : Int) (h0 : 0 ≤ x) (hx : x ≤ 8) : x = 0 ∨ x = 1 ∨ x = 2 ∨ x = 3 ∨ x = 4 ∨ x = 5 ∨ x = 6 ∨ x = 7 ∨ x = 8 := by omega
theorem choose2_any (x : Int) (w : World) (h0 : 0 ≤ x) (hx : x ≤ 8) : Calls Try.prog 56 #[.int .i64 x, .int .i64 2] w fun e w' => e = .returned (.int .i64 (choose2 x.toNat : Nat)) ∧ w = w' := by
  rcases eight x h0 hx with rfl | rfl | rfl | rfl | rfl | rfl | rfl | rfl | rfl
  all_goals
    go_enter Try.func56, Try.ntmps56
    go_wp2
    try go_rounds 3
    go_ret
    exact ⟨rfl, rfl⟩
theorem choose3_any (x : Int) (w : World) (h0 : 0 ≤ x) (hx : x ≤ 8) : Calls Try.prog 56 #[.int .i64 x, .int .i64 3] w fun e w' => e = .returned (.int .i64 (choose3 x.toNat : Nat)) ∧ w = w' := by
  rcases eight x h0 hx with rfl | rfl | rfl | rfl | rfl | rfl | rfl | rfl | rfl
  all_goals
    go_enter Try.func56, Try.ntmps56
    go_wp2
    try go_rounds 4
    go_ret
    exact ⟨rfl, rfl⟩
theorem choose2_le (n : Nat) (hn : n ≤ 8) : choose2 n ≤ 28 := by
  have h : n = 0 ∨ n = 1 ∨ n = 2 ∨ n = 3 ∨ n = 4 ∨ n = 5 ∨ n = 6 ∨ n = 7 ∨ n = 8 := by omega
  rcases h with rfl | rfl | rfl | rfl | rfl | rfl | rfl | rfl | rfl <;> decide
theorem choose3_le (n : Nat) (hn : n ≤ 8) : choose3 n ≤ 56 := by
  have h : n = 0 ∨ n = 1 ∨ n = 2 ∨ n = 3 ∨ n = 4 ∨ n = 5 ∨ n = 6 ∨ n = 7 ∨ n = 8 := by omega
  rcases h with rfl | rfl | rfl | rfl | rfl | rfl | rfl | rfl | rfl <;> decide
end Go.Proofs.Ytaocjjocncoahaa
