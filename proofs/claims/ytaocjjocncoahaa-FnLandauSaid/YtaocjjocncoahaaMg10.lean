/- Plain facts on sets of small numbers written as the bits of a natural number. No program. The model's bit operations on int, at numbers that are not negative. No program. -/
import Derived.Test.YtaocjjocncoahaaKit
import Derived.Laws.BitsAllLaws
import Derived.Laws.BitsLemmas
namespace Go.Proofs.Ytaocjjocncoahaa

/-- The number whose bit i is f i, for i below n. -/
def ofB : Nat → (Nat → Bool) → Nat
  | 0, _ => 0
  | n + 1, f => ofB n f + if f n then 2 ^ n else 0

theorem ofB_lt (n : Nat) (f : Nat → Bool) : ofB n f < 2 ^ n := by
  induction n with
  | zero => simp [ofB]
  | succ n ih =>
    have : 2 ^ (n + 1) = 2 ^ n + 2 ^ n := by rw [Nat.pow_succ]; omega
    unfold ofB
    split <;> omega

theorem testBit_ofB (n : Nat) (f : Nat → Bool) (i : Nat) : (ofB n f).testBit i = (decide (i < n) && f i) := by
  induction n with
  | zero => simp [ofB]
  | succ n ih =>
    unfold ofB
    have hl := ofB_lt n f
    by_cases hf : f n = true
    · rw [if_pos hf, Nat.add_comm]
      by_cases e : i = n
      · subst e
        rw [Nat.testBit_two_pow_add_eq, Nat.testBit_lt_two_pow hl]
        simp [hf]
      · by_cases hlt : i < n
        · rw [Nat.testBit_two_pow_add_gt hlt, ih]
          simp [hlt, Nat.lt_succ_of_lt hlt]
        · have h2 : 2 ^ n + ofB n f < 2 ^ i := by
            have a : 2 ^ (n + 1) ≤ 2 ^ i := Nat.pow_le_pow_right (by omega) (by omega)
            rw [Nat.pow_succ] at a
            omega
          rw [Nat.testBit_lt_two_pow h2]
          have : ¬ i < n + 1 := by omega
          simp [this]
    · rw [if_neg hf, Nat.add_zero, ih]
      by_cases e : i = n
      · subst e; simp [hf]
      · have : (i < n + 1) ↔ (i < n) := by omega
        simp [this]

theorem eq_ofB (n x : Nat) (f : Nat → Bool) (hx : x < 2 ^ n) (h : ∀ i, i < n → x.testBit i = f i) : x = ofB n f := by
  apply Nat.eq_of_testBit_eq
  intro i
  rw [testBit_ofB]
  by_cases hi : i < n
  · simp [hi, h i hi]
  · rw [Nat.testBit_lt_two_pow (Nat.lt_of_lt_of_le hx (Nat.pow_le_pow_right (by omega) (by omega)))]
    simp [hi]

theorem ofB_testBit (n x : Nat) (hx : x < 2 ^ n) : ofB n x.testBit = x := (eq_ofB n x _ hx (fun _ _ => rfl)).symm

theorem ofB_congr (n : Nat) (f g : Nat → Bool) (h : ∀ i, i < n → f i = g i) : ofB n f = ofB n g := by
  apply eq_ofB _ _ _ (ofB_lt n f)
  intro i hi
  rw [testBit_ofB]
  simp [hi, h i hi]

theorem ofB_or (n : Nat) (f : Nat → Bool) : ofB (n + 1) f = ofB n f ||| (if f n then 2 ^ n else 0) := by
  apply Nat.eq_of_testBit_eq
  intro i
  rw [testBit_ofB, Nat.testBit_or, testBit_ofB]
  by_cases e : i = n
  · subst e
    by_cases hf : f i = true <;> simp [hf]
  · have h1 : (i < n + 1) ↔ (i < n) := by omega
    by_cases hf : f n = true
    · simp [hf, h1, Ne.symm e]
    · simp [hf, h1]

/-- How many bits are set. -/
def pc : Nat → Nat → Nat
  | 0, _ => 0
  | n + 1, x => pc n x + if x.testBit n then 1 else 0

/-- The members of a set, in ascending order. -/
def mem (n x : Nat) : List Nat := (List.range n).filter x.testBit
theorem mem_mem (n x a : Nat) : a ∈ mem n x ↔ a < n ∧ x.testBit a = true := by simp [mem]
theorem mem_succ (n x : Nat) : mem (n + 1) x = mem n x ++ if x.testBit n then [n] else [] := by
  unfold mem
  rw [List.range_succ, List.filter_append]
  by_cases h : x.testBit n = true <;> simp [h]
theorem mem_length (n x : Nat) : (mem n x).length = pc n x := by
  induction n with
  | zero => simp [mem, pc]
  | succ n ih =>
    rw [mem_succ, List.length_append, ih, pc]
    split <;> simp
theorem pc_le (n x : Nat) : pc n x ≤ n := by
  rw [← mem_length]
  exact Nat.le_trans (List.length_filter_le _ _) (by simp)

/-! ### Shifts and masks as they stand on Int -/
theorem shr_one (x b : Nat) : ((x : Int) / 2 ^ b) % 2 = if x.testBit b then 1 else 0 := by
  have h1 : ((x : Int) / 2 ^ b) % 2 = ((x / 2 ^ b % 2 : Nat) : Int) := by
    have e : ((2 : Int) ^ b) = ((2 ^ b : Nat) : Int) := by simp
    rw [e]; omega
  rw [h1, Nat.testBit_eq_decide_div_mod_eq]
  by_cases h : x / 2 ^ b % 2 = 1
  · simp only [h, decide_true, if_true]; rfl
  · simp only [h, decide_false]; simp; omega
end Go.Proofs.Ytaocjjocncoahaa

namespace Go.Proofs.Ytaocjjocncoahaa
open Go.RowKit

theorem ofInt64 (a : Nat) (ha : a < 9223372036854775808) : (BitVec.ofInt 64 (a : Int)).toNat = a := by
  rw [BitVec.ofInt_natCast, BitVec.toNat_ofNat]; exact Nat.mod_eq_of_lt (by omega)
theorem wrap_nat (a : Nat) (ha : a < 9223372036854775808) : IntKind.i64.wrap (a : Int) = a := by rw [IntKind.wrap_i64]; omega
theorem and_nat (a b : Nat) (ha : a < 9223372036854775808) (hb : b < 9223372036854775808) : bits .and .i64 (a : Int) (b : Int) = ((a &&& b : Nat) : Int) := by
  show IntKind.i64.wrap ((BitVec.ofInt 64 (a : Int) &&& BitVec.ofInt 64 (b : Int)).toNat : Int) = _
  rw [BitVec.toNat_and, ofInt64 a ha, ofInt64 b hb, wrap_nat _ (Nat.and_lt_two_pow (n := 63) _ hb)]
theorem or_nat (a b : Nat) (ha : a < 9223372036854775808) (hb : b < 9223372036854775808) : bits .or .i64 (a : Int) (b : Int) = ((a ||| b : Nat) : Int) := by
  show IntKind.i64.wrap ((BitVec.ofInt 64 (a : Int) ||| BitVec.ofInt 64 (b : Int)).toNat : Int) = _
  rw [BitVec.toNat_or, ofInt64 a ha, ofInt64 b hb, wrap_nat _ (Nat.or_lt_two_pow (n := 63) ha hb)]
theorem xor_nat (a b : Nat) (ha : a < 9223372036854775808) (hb : b < 9223372036854775808) : bits .xor .i64 (a : Int) (b : Int) = ((a ^^^ b : Nat) : Int) := by
  show IntKind.i64.wrap ((BitVec.ofInt 64 (a : Int) ^^^ BitVec.ofInt 64 (b : Int)).toNat : Int) = _
  rw [BitVec.toNat_xor, ofInt64 a ha, ofInt64 b hb, wrap_nat _ (Nat.xor_lt_two_pow (n := 63) ha hb)]

theorem shr_nat (x b : Nat) : (x : Int) / 2 ^ b = ((x / 2 ^ b : Nat) : Int) := by
  have e : ((2 : Int) ^ b) = ((2 ^ b : Nat) : Int) := by simp
  rw [e]; omega
theorem and_one (x : Nat) (h : x < 9223372036854775808) : bits .and .i64 (x : Int) 1 = ((x % 2 : Nat) : Int) := by
  have := and_nat x 1 h (by omega)
  rw [Nat.and_one_is_mod] at this
  exact this
/-- 'x>>b&1 == 1' -/
theorem bit_test (x b : Nat) (h : x < 9223372036854775808) : (bits .and .i64 ((x : Int) / 2 ^ b) 1 == 1) = x.testBit b := by
  rw [shr_nat, and_one _ (Nat.lt_of_le_of_lt (Nat.div_le_self _ _) h), Nat.testBit_eq_decide_div_mod_eq, Bool.eq_iff_iff]
  generalize x / 2 ^ b % 2 = y
  rw [beq_iff_eq, decide_eq_true_eq]
  omega
/-- 'a &^ b' at sets of small numbers. -/
theorem andNot_nat (a b : Nat) (ha : a < 256) (hb : b < 256) : bits .andNot .i64 (a : Int) (b : Int) = ((ofB 8 (fun i => a.testBit i && !b.testBit i) : Nat) : Int) := by
  show IntKind.i64.wrap ((BitVec.ofInt 64 (a : Int) &&& ~~~ BitVec.ofInt 64 (b : Int)).toNat : Int) = _
  have e : (BitVec.ofInt 64 (a : Int) &&& ~~~ BitVec.ofInt 64 (b : Int)).toNat = ofB 8 (fun i => a.testBit i && !b.testBit i) := by
    have hlt : (BitVec.ofInt 64 (a : Int) &&& ~~~ BitVec.ofInt 64 (b : Int)).toNat < 2 ^ 8 := by
      rw [BitVec.toNat_and, ofInt64 a (by omega)]
      exact Nat.lt_of_le_of_lt Nat.and_le_left ha
    refine eq_ofB 8 _ _ hlt fun i hi => ?_
    rw [BitVec.testBit_toNat, BitVec.getLsbD_and, BitVec.getLsbD_not, ← BitVec.testBit_toNat, ← BitVec.testBit_toNat, ofInt64 a (by omega), ofInt64 b (by omega)]
    have h64 : i < 64 := by omega
    rw [decide_eq_true h64, Bool.true_and]
  rw [e]
  exact wrap_nat _ (Nat.lt_of_lt_of_le (ofB_lt 8 _) (by decide))
end Go.Proofs.Ytaocjjocncoahaa
