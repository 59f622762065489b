/- Sets of small numbers as the bits of an int: the members, their number, walked. -/
import Derived.Test.YtliimojaoegdhaaDoorPush
import Derived.Test.YtliimojaoegdhaaDoorLib
import Derived.Test.YtliimojaoegdhaaDoorBitOps
import Derived.Deep.LoopGhost
namespace Go.Proofs.YtliimojaoegdhaaDoor
open Go.RowKit

def casts (ns : List Nat) : List Int := ns.map fun (n : Nat) => (n : Int)
theorem casts_length (ns : List Nat) : (casts ns).length = ns.length := by simp [casts]
theorem casts_append (a b : List Nat) : casts (a ++ b) = casts a ++ casts b := by simp [casts]

theorem div_pos (x a : Nat) (hx : x < 256) (h : 0 < x / 2 ^ a) : a < 8 := by
  rcases Nat.lt_or_ge a 8 with h1 | h1
  · exact h1
  · have : (2 : Nat) ^ 8 ≤ 2 ^ a := Nat.pow_le_pow_right (by omega) h1
    rw [Nat.div_eq_of_lt (by omega)] at h
    omega
theorem testBit_high (x a i : Nat) (h : x / 2 ^ a = 0) (hi : a ≤ i) : x.testBit i = false := by
  have hx : x < 2 ^ a := by
    rcases Nat.lt_or_ge x (2 ^ a) with h1 | h1
    · exact h1
    · have := Nat.div_pos h1 (Nat.two_pow_pos a); omega
  exact Nat.testBit_lt_two_pow (Nat.lt_of_lt_of_le hx (Nat.pow_le_pow_right (by omega) hi))
theorem mem_end (x a d : Nat) (h : x / 2 ^ a = 0) : mem (a + d) x = mem a x := by
  induction d with
  | zero => rfl
  | succ d ih => rw [← Nat.add_assoc, mem_succ, testBit_high x a (a + d) h (by omega)]; simpa using ih
theorem pc_end (x a d : Nat) (h : x / 2 ^ a = 0) : pc (a + d) x = pc a x := by rw [← mem_length, ← mem_length, mem_end x a d h]


theorem shr_succ (s k : Nat) : s / 2 ^ (k + 1) = s / 2 ^ k / 2 := by rw [Nat.div_div_eq_div_mul, Nat.pow_succ]
theorem low_bit (s k : Nat) (h : s < 9223372036854775808) : (bits .and .i64 ((s / 2 ^ k : Nat) : Int) 1 == 1) = s.testBit k := by
  have := bit_test s k h
  rwa [shr_nat] at this
theorem low_val (s k : Nat) (h : s < 9223372036854775808) : bits .and .i64 ((s / 2 ^ k : Nat) : Int) 1 = if s.testBit k then 1 else 0 := by
  rw [and_one _ (Nat.lt_of_le_of_lt (Nat.div_le_self _ _) h), Nat.testBit_eq_decide_div_mod_eq]
  have h1 : s / 2 ^ k % 2 < 2 := Nat.mod_lt _ (by omega)
  generalize s / 2 ^ k % 2 = y at *
  by_cases e : y = 1
  · subst e; rfl
  · have : y = 0 := by omega
    subst this; rfl


end Go.Proofs.YtliimojaoegdhaaDoor
