/- Sets of small numbers as the bits of an int: the members, their number, walked. -/
import Derived.Test.YtaocjjocncoahaaDoorPush
import Derived.Test.YtaocjjocncoahaaDoorLib
import Derived.Test.YtaocjjocncoahaaDoorBitOps
import Derived.Deep.LoopGhost
namespace Go.Proofs.YtaocjjocncoahaaDoor
open Go.RowKit

def casts (ns : List Nat) : List Int := ns.map fun (n : Nat) => (n : Int)
theorem casts_length (ns : List Nat) : (casts ns).length = ns.length := by simp [casts]
theorem casts_append (a b : List Nat) : casts (a ++ b) = casts a ++ casts b := by simp [casts]

theorem div_pos (x a : Nat) (hx : x < 256) (h : 0 < x / 2 ^ a) : a < 8 := by
  rcases Nat.lt_or_ge a 8 with h1 | h1
  · exact h1
  · have : (2 : Nat) ^ 8 ≤ 2 ^ a := Nat.pow_le_pow_right (by omega) h1
    rw [Nat.div_eq_of_lt (by omega)] at h
    omega
theorem testBit_high (x a i : Nat) (h : x / 2 ^ a = 0) (hi : a ≤ i) : x.testBit i = false := by
  have hx : x < 2 ^ a := by
    rcases Nat.lt_or_ge x (2 ^ a) with h1 | h1
    · exact h1
    · have := Nat.div_pos h1 (Nat.two_pow_pos a); omega
  exact Nat.testBit_lt_two_pow (Nat.lt_of_lt_of_le hx (Nat.pow_le_pow_right (by omega) hi))
theorem mem_end (x a d : Nat) (h : x / 2 ^ a = 0) : mem (a + d) x = mem a x := by
  induction d with
  | zero => rfl
  | succ d ih => rw [← Nat.add_assoc, mem_succ, testBit_high x a (a + d) h (by omega)]; simpa using ih
theorem pc_end (x a d : Nat) (h : x / 2 ^ a = 0) : pc (a + d) x = pc a x := by rw [← mem_length, ← mem_length, mem_end x a d h]

theorem shr_succ (s k : Nat) : s / 2 ^ (k + 1) = s / 2 ^ k / 2 := by rw [Nat.div_div_eq_div_mul, Nat.pow_succ]
theorem low_bit (s k : Nat) (h : s < 9223372036854775808) : (bits .and .i64 ((s / 2 ^ k : Nat) : Int) 1 == 1) = s.testBit k := by
  have := bit_test s k h
  rwa [shr_nat] at this
theorem low_val (s k : Nat) (h : s < 9223372036854775808) : bits .and .i64 ((s / 2 ^ k : Nat) : Int) 1 = if s.testBit k then 1 else 0 := by
  rw [and_one _ (Nat.lt_of_le_of_lt (Nat.div_le_self _ _) h), Nat.testBit_eq_decide_div_mod_eq]
  have h1 : s / 2 ^ k % 2 < 2 := Nat.mod_lt _ (by omega)
  generalize s / 2 ^ k % 2 = y at *
  by_cases e : y = 1
  · subst e; rfl
  · have : y = 0 := by omega
    subst this; rfl

theorem l02Bits_any (x : Int) (w : World) (h0 : 0 ≤ x) (hx : x < 256) :
    Calls Tryd.prog 60 #[.int .i64 x] w fun e w' => e = .returned (.int .i64 (pc 8 x.toNat : Nat)) ∧ w = w' := by
  obtain ⟨s, rfl⟩ := Int.eq_ofNat_of_zero_le h0
  rw [Int.toNat_natCast]
  go_enter Tryd.func60, Tryd.ntmps60
  go_wp2
  go_loopg [0, 3] 8 (fun g t c wr => ∃ (k y : Nat), k ≤ 8 ∧ 8 - k ≤ g ∧ t = .int .i64 y ∧ Hid (y = s / 2 ^ k) ∧ y < 256 ∧ c = .int .i64 (pc k s : Nat) ∧ w = wr)
  case atStart => exact ⟨0, s, by omega, by omega, rfl, Lib.hid (by simp), by omega, rfl, rfl⟩
  case round =>
    obtain ⟨k, y, hk, hgg, rfl, HY, hy, rfl, rfl⟩ := hrel
    have hp := pc_le k s
    by_cases hg : 0 < y
    · have hk8 := div_pos s k (by omega) (by rw [← HY.out]; exact hg)
      have HY2 : Hid (y / 2 = s / 2 ^ (k + 1)) := Lib.hid (by rw [shr_succ, HY.out])
      have HP : Hid (((pc (k + 1) s : Nat) : Int) = (pc k s : Nat) + bits .and .i64 (y : Int) 1) := Lib.hid (by rw [HY.out, low_val s k (by omega), pc]; split <;> simp)
      have t1 : 0 ≤ bits .and .i64 (y : Int) 1 := by rw [HY.out, low_val s k (by omega)]; split <;> omega
      have t2 : bits .and .i64 (y : Int) 1 ≤ 1 := by rw [HY.out, low_val s k (by omega)]; split <;> omega
      go_wp2
      go_roundg (8 - (k + 1))
      case measure => omega
      case rel => exact ⟨k + 1, y / 2, by omega, by omega, by go_num, HY2, by omega, by rw [HP.out], rfl⟩
    · have hz : y = 0 := by omega
      have E : Hid (pc 8 s = pc k s) := Lib.hid (by have := pc_end s k (8 - k) (by rw [← HY.out]; exact hz); rwa [show k + (8 - k) = 8 by omega] at this)
      clear HY
      subst hz
      go_wp2
      go_ret
      exact ⟨ret_int (by rw [E.out]), rfl⟩
end Go.Proofs.YtaocjjocncoahaaDoor
