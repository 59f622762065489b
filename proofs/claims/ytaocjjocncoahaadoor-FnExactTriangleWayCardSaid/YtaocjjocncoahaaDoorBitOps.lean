/- The model's bit operations on int, at numbers that are not negative. No program. -/
import Derived.Test.YtaocjjocncoahaaDoorKit
import Derived.Test.YtaocjjocncoahaaDoorBits
import Derived.Laws.BitsAllLaws
import Derived.Laws.BitsLemmas
namespace Go.Proofs.YtaocjjocncoahaaDoor
open Go.RowKit

theorem ofInt64 (a : Nat) (ha : a < 9223372036854775808) : (BitVec.ofInt 64 (a : Int)).toNat = a := by
  rw [BitVec.ofInt_natCast, BitVec.toNat_ofNat]; exact Nat.mod_eq_of_lt (by omega)
theorem wrap_nat (a : Nat) (ha : a < 9223372036854775808) : IntKind.i64.wrap (a : Int) = a := by rw [IntKind.wrap_i64]; omega
theorem and_nat (a b : Nat) (ha : a < 9223372036854775808) (hb : b < 9223372036854775808) : bits .and .i64 (a : Int) (b : Int) = ((a &&& b : Nat) : Int) := by
  show IntKind.i64.wrap ((BitVec.ofInt 64 (a : Int) &&& BitVec.ofInt 64 (b : Int)).toNat : Int) = _
  rw [BitVec.toNat_and, ofInt64 a ha, ofInt64 b hb, wrap_nat _ (Nat.and_lt_two_pow (n := 63) _ hb)]
theorem or_nat (a b : Nat) (ha : a < 9223372036854775808) (hb : b < 9223372036854775808) : bits .or .i64 (a : Int) (b : Int) = ((a ||| b : Nat) : Int) := by
  show IntKind.i64.wrap ((BitVec.ofInt 64 (a : Int) ||| BitVec.ofInt 64 (b : Int)).toNat : Int) = _
  rw [BitVec.toNat_or, ofInt64 a ha, ofInt64 b hb, wrap_nat _ (Nat.or_lt_two_pow (n := 63) ha hb)]
theorem xor_nat (a b : Nat) (ha : a < 9223372036854775808) (hb : b < 9223372036854775808) : bits .xor .i64 (a : Int) (b : Int) = ((a ^^^ b : Nat) : Int) := by
  show IntKind.i64.wrap ((BitVec.ofInt 64 (a : Int) ^^^ BitVec.ofInt 64 (b : Int)).toNat : Int) = _
  rw [BitVec.toNat_xor, ofInt64 a ha, ofInt64 b hb, wrap_nat _ (Nat.xor_lt_two_pow (n := 63) ha hb)]

theorem shr_nat (x b : Nat) : (x : Int) / 2 ^ b = ((x / 2 ^ b : Nat) : Int) := by
  have e : ((2 : Int) ^ b) = ((2 ^ b : Nat) : Int) := by simp
  rw [e]; omega
theorem and_one (x : Nat) (h : x < 9223372036854775808) : bits .and .i64 (x : Int) 1 = ((x % 2 : Nat) : Int) := by
  have := and_nat x 1 h (by omega)
  rw [Nat.and_one_is_mod] at this
  exact this
/-- 'x>>b&1 == 1' -/
theorem bit_test (x b : Nat) (h : x < 9223372036854775808) : (bits .and .i64 ((x : Int) / 2 ^ b) 1 == 1) = x.testBit b := by
  rw [shr_nat, and_one _ (Nat.lt_of_le_of_lt (Nat.div_le_self _ _) h), Nat.testBit_eq_decide_div_mod_eq, Bool.eq_iff_iff]
  generalize x / 2 ^ b % 2 = y
  rw [beq_iff_eq, decide_eq_true_eq]
  omega
/-- 'a &^ b' at sets of small numbers. -/
theorem andNot_nat (a b : Nat) (ha : a < 256) (hb : b < 256) : bits .andNot .i64 (a : Int) (b : Int) = ((ofB 8 (fun i => a.testBit i && !b.testBit i) : Nat) : Int) := by
  show IntKind.i64.wrap ((BitVec.ofInt 64 (a : Int) &&& ~~~ BitVec.ofInt 64 (b : Int)).toNat : Int) = _
  have e : (BitVec.ofInt 64 (a : Int) &&& ~~~ BitVec.ofInt 64 (b : Int)).toNat = ofB 8 (fun i => a.testBit i && !b.testBit i) := by
    have hlt : (BitVec.ofInt 64 (a : Int) &&& ~~~ BitVec.ofInt 64 (b : Int)).toNat < 2 ^ 8 := by
      rw [BitVec.toNat_and, ofInt64 a (by omega)]
      exact Nat.lt_of_le_of_lt Nat.and_le_left ha
    refine eq_ofB 8 _ _ hlt fun i hi => ?_
    rw [BitVec.testBit_toNat, BitVec.getLsbD_and, BitVec.getLsbD_not, ← BitVec.testBit_toNat, ← BitVec.testBit_toNat, ofInt64 a (by omega), ofInt64 b (by omega)]
    have h64 : i < 64 := by omega
    rw [decide_eq_true h64, Bool.true_and]
  rw [e]
  exact wrap_nat _ (Nat.lt_of_lt_of_le (ofB_lt 8 _) (by decide))
end Go.Proofs.YtaocjjocncoahaaDoor
