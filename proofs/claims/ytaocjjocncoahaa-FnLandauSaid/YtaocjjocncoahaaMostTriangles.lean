/- The two functions MostTriangles, walked. -/
import Derived.Test.YtaocjjocncoahaaMg4
namespace Go.Proofs.Ytaocjjocncoahaa
open Go.RowKit

/-- The count after k players. -/
def mostT (n : Nat) : Nat → Int
  | 0 => (choose3 n : Nat)
  | k + 1 => mostT n k - (choose2 ((n - 1 + k % 2) / 2) : Nat)
theorem mostT_bd (n k : Nat) (hn : n ≤ 8) : -28 * (k : Int) ≤ mostT n k ∧ mostT n k ≤ 56 := by
  induction k with
  | zero => have := choose3_le n hn; unfold mostT; omega
  | succ k ih =>
    have := choose2_le ((n - 1 + k % 2) / 2) (by omega)
    unfold mostT
    omega
/-- What both functions answer. -/
def mostTri (n : Int) : Int := if 1 ≤ n ∧ n ≤ 8 then mostT n.toNat n.toNat else -1

theorem iMost_no (n : Int) (w : World) (h : n < 1 ∨ 8 < n) : Calls Try.prog 23 #[.int .i64 n] w fun e w' => e = .returned (.int .i64 (mostTri n)) ∧ w = w' := by
  have e : mostTri n = -1 := if_neg (by omega)
  rw [e]
  go_enter Try.func23, Try.ntmps23
  go_wp2_with (go_at_call 33; refine (within_no _ _ _ _ h).mono ?_; rintro e w' ⟨rfl, rfl⟩)
  go_ret
  exact ⟨rfl, rfl⟩

theorem iMost_yes (n : Nat) (w : World) (h1 : 1 ≤ n) (h8 : n ≤ 8) : Calls Try.prog 23 #[.int .i64 (n : Int)] w fun e w' => e = .returned (.int .i64 (mostTri n)) ∧ w = w' := by
  have E := Lib.hid (show mostTri (n : Int) = mostT n n from if_pos (by omega))
  go_enter Try.func23, Try.ntmps23
  go_wp2_with (first
    | (go_at_call 33; refine (within_yes _ _ _ _ (by omega) (by omega)).mono ?_; rintro e w' ⟨rfl, rfl⟩)
    | (go_at_call 56; refine (choose3_any _ _ (by omega) (by omega)).mono ?_; rintro e w' ⟨rfl, rfl⟩))
  go_loop [3, 11] (fun c i => ∃ k : Nat, k ≤ n ∧ i = .int .i64 k ∧ c = .int .i64 (mostT n k)) (fun _ i => n - (intOf i).toNat)
  case atStart => exact ⟨0, Nat.zero_le _, rfl, by simp [mostT]⟩
  case round =>
    obtain ⟨k, hk, rfl, rfl⟩ := hrel
    have hbd := mostT_bd n k h8
    by_cases hlt : k < n
    · have ha : ((n : Int) - 1 + (k : Int) % 2) / 2 = (((n - 1 + k % 2) / 2 : Nat) : Int) := by omega
      have HA := Lib.hid ha
      have hc := choose2_le ((n - 1 + k % 2) / 2) (by omega)
      clear ha
      go_wp2_with fail
      refine (choose2_any _ _ (by omega) (by omega)).mono ?_
      rintro e w' ⟨rfl, rfl⟩
      rw [HA.out, Int.toNat_natCast]
      go_wp2
      go_round
      case rel => exact ⟨k + 1, by omega, by go_num, rfl⟩
      case measure => simp [intOf]; omega
    · obtain rfl : k = n := by omega
      go_wp2
      go_ret
      exact ⟨ret_int E.out.symm, rfl⟩

theorem most_value (n : Nat) (h1 : 1 ≤ n) (h8 : n ≤ 8) : mostTri n = if n % 2 = 1 then ((n : Int) * n * n - n) / 24 else ((n : Int) * n * n - 4 * n) / 24 := by
  have h : n = 1 ∨ n = 2 ∨ n = 3 ∨ n = 4 ∨ n = 5 ∨ n = 6 ∨ n = 7 ∨ n = 8 := by omega
  rcases h with rfl | rfl | rfl | rfl | rfl | rfl | rfl | rfl <;> decide

theorem iMost_any (n : Int) (w : World) : Calls Try.prog 23 #[.int .i64 n] w fun e w' => e = .returned (.int .i64 (mostTri n)) ∧ w = w' := by
  by_cases h : 1 ≤ n ∧ n ≤ 8
  · obtain ⟨m, rfl⟩ := Int.eq_ofNat_of_zero_le (show 0 ≤ n by omega)
    exact iMost_yes m w (by omega) (by omega)
  · exact iMost_no n w (by omega)
end Go.Proofs.Ytaocjjocncoahaa
