/- All players but one. No program. -/
import Derived.Test.YtaocjjocncoahaaBits2
import Derived.Test.YtaocjjocncoahaaIsT
namespace Go.Proofs.Ytaocjjocncoahaa
open Go.RowKit
theorem pc_all (n : Nat) (hn : n ≤ 8) : pc 8 (2 ^ n - 1) = n := by
  have h : n = 0 ∨ n = 1 ∨ n = 2 ∨ n = 3 ∨ n = 4 ∨ n = 5 ∨ n = 6 ∨ n = 7 ∨ n = 8 := by omega
  rcases h with rfl | rfl | rfl | rfl | rfl | rfl | rfl | rfl | rfl <;> decide
theorem all_bit (n a : Nat) (ha : a < n) : (2 ^ n - 1).testBit a = true := by rw [Nat.testBit_two_pow_sub_one]; simp [ha]
/-- All but a. -/
def others (n a : Nat) : Nat := 2 ^ n - 1 - 2 ^ a
theorem others_ok (n a : Nat) (hn : n ≤ 8) (ha : a < n) : others n a < 2 ^ n ∧ pc 8 (others n a) = n - 1 ∧ others n a + 2 ^ a = 2 ^ n - 1 ∧ 2 ^ n - 1 - others n a = 2 ^ a := by
  have h1 := all_bit n a ha
  have h2 : (2 : Nat) ^ n ≤ 256 := pow_le8 n hn
  have hp := Nat.two_pow_pos n
  have h3 := pc_sub (2 ^ n - 1) a (by omega) (by omega) h1
  have h4 := (sub_bit (2 ^ n - 1) a (by omega) (by omega) h1).2
  rw [pc_all n hn] at h3
  unfold others
  generalize hM : (2 : Nat) ^ a = M at *
  generalize hN : (2 : Nat) ^ n = N at *
  refine ⟨by omega, by omega, by omega, by omega⟩
end Go.Proofs.Ytaocjjocncoahaa
