/- More plain facts on sets of small numbers: removing, complements, counting. No program. All players but one. No program. -/
import Derived.Test.YtaocjjocncoahaaMg10
import Derived.Test.YtaocjjocncoahaaIsT
namespace Go.Proofs.Ytaocjjocncoahaa

/-- How many i below n have f. -/
def cntB : Nat → (Nat → Bool) → Nat
  | 0, _ => 0
  | n + 1, f => cntB n f + if f n then 1 else 0
theorem cntB_congr (n : Nat) (f g : Nat → Bool) (h : ∀ i, i < n → f i = g i) : cntB n f = cntB n g := by
  induction n with
  | zero => rfl
  | succ n ih => unfold cntB; rw [ih (fun i hi => h i (by omega)), h n (by omega)]
theorem pc_cntB (n x : Nat) : pc n x = cntB n x.testBit := by
  induction n with
  | zero => rfl
  | succ n ih => unfold pc cntB; rw [ih]
theorem cntB_remove (n b : Nat) (f : Nat → Bool) (hb : b < n) (hf : f b = true) : cntB n f = cntB n (fun i => f i && decide (i ≠ b)) + 1 := by
  induction n with
  | zero => omega
  | succ n ih =>
    unfold cntB
    by_cases e : b = n
    · subst e
      rw [cntB_congr b f (fun i => f i && decide (i ≠ b)) (fun i hi => by simp; intro _; omega), hf]
      simp
    · have := ih (by omega)
      have e2 : (fun i => f i && decide (i ≠ b)) n = f n := by simp; intro _; omega
      rw [e2]
      omega
theorem cntB_zero (n : Nat) (f : Nat → Bool) : cntB n f = 0 ↔ ∀ i, i < n → f i = false := by
  induction n with
  | zero => simp [cntB]
  | succ n ih =>
    unfold cntB
    constructor
    · intro h i hi
      by_cases e : i = n
      · subst e
        cases hf : f i
        · rfl
        · rw [hf] at h; simp at h
      · exact (ih.1 (by omega)) i (by omega)
    · intro h
      rw [ih.2 (fun i hi => h i (by omega)), h n (by omega)]
      simp
theorem ofB_add (n : Nat) (f g : Nat → Bool) (h : ∀ i, i < n → (f i && g i) = false) : ofB n f + ofB n g = ofB n (fun i => f i || g i) := by
  induction n with
  | zero => rfl
  | succ n ih =>
    have h1 := ih (fun i hi => h i (by omega))
    have h2 := h n (by omega)
    unfold ofB
    cases hf : f n <;> cases hg : g n <;> simp [hf, hg] at * <;> omega
theorem ofB_one (n b : Nat) (hb : b < n) : ofB n (fun i => decide (i = b)) = 2 ^ b := by
  refine (eq_ofB n (2 ^ b) _ (Nat.pow_lt_pow_right (by omega) hb) fun i hi => ?_).symm
  rw [Nat.testBit_two_pow]
  simp [eq_comm]
theorem ofB_all (n : Nat) : ofB n (fun _ => true) = 2 ^ n - 1 := by
  induction n with
  | zero => rfl
  | succ n ih =>
    unfold ofB
    rw [ih, Nat.pow_succ]
    have := Nat.two_pow_pos n
    simp
    omega
/-- A set without one of its members. -/
theorem sub_bit (x b : Nat) (hx : x < 256) (hb : b < 8) (h : x.testBit b = true) : x - 2 ^ b = ofB 8 (fun i => x.testBit i && decide (i ≠ b)) ∧ 2 ^ b ≤ x := by
  have h1 := ofB_add 8 (fun i => x.testBit i && decide (i ≠ b)) (fun i => decide (i = b)) (fun i _ => by by_cases e : i = b <;> simp [e])
  rw [ofB_one 8 b hb] at h1
  have h2 : ofB 8 (fun i => (x.testBit i && decide (i ≠ b)) || decide (i = b)) = x := by
    refine (eq_ofB 8 x _ hx fun i _ => ?_).symm
    by_cases e : i = b
    · subst e; simp [h]
    · simp [e]
  rw [h2] at h1
  constructor <;> omega
theorem testBit_sub (x b i : Nat) (hx : x < 256) (hb : b < 8) (h : x.testBit b = true) : (x - 2 ^ b).testBit i = (x.testBit i && decide (i ≠ b)) := by
  rw [(sub_bit x b hx hb h).1, testBit_ofB]
  by_cases hi : i < 8
  · simp [hi]
  · rw [Nat.testBit_lt_two_pow (x := x) (Nat.lt_of_lt_of_le hx (by have : (2 : Nat) ^ 8 ≤ 2 ^ i := Nat.pow_le_pow_right (by omega) (by omega); omega))]
    simp [hi]
theorem pc_sub (x b : Nat) (hx : x < 256) (hb : b < 8) (h : x.testBit b = true) : pc 8 x = pc 8 (x - 2 ^ b) + 1 := by
  rw [pc_cntB, pc_cntB, cntB_remove 8 b _ hb h]
  congr 1
  exact cntB_congr 8 _ _ fun i _ => (testBit_sub x b i hx hb h).symm
theorem pc_zero (x : Nat) (hx : x < 256) : pc 8 x = 0 ↔ x = 0 := by
  rw [pc_cntB, cntB_zero]
  constructor
  · intro h
    apply Nat.eq_of_testBit_eq
    intro i
    by_cases hi : i < 8
    · rw [h i hi]; simp
    · rw [Nat.testBit_lt_two_pow (Nat.lt_of_lt_of_le hx (by have : (2 : Nat) ^ 8 ≤ 2 ^ i := Nat.pow_le_pow_right (by omega) (by omega); omega))]; simp
  · rintro rfl i _
    simp
/-- The complement within n. -/
theorem testBit_compl (n x i : Nat) (hx : x < 2 ^ n) : (2 ^ n - 1 - x).testBit i = (decide (i < n) && !x.testBit i) := by
  rw [show 2 ^ n - 1 - x = 2 ^ n - (x + 1) by omega, Nat.testBit_two_pow_sub_succ hx]
theorem compl_lt (n x : Nat) : 2 ^ n - 1 - x < 2 ^ n := by have := Nat.two_pow_pos n; omega
theorem compl_or (n x b : Nat) (hn : n ≤ 8) (hx : x < 2 ^ n) (hb : b < n) (h : x.testBit b = true) : (2 ^ n - 1 - x) ||| 2 ^ b = 2 ^ n - 1 - (x - 2 ^ b) := by
  have h256 : x < 256 := Nat.lt_of_lt_of_le hx (by have : (2 : Nat) ^ n ≤ 2 ^ 8 := Nat.pow_le_pow_right (by omega) hn; omega)
  apply Nat.eq_of_testBit_eq
  intro i
  rw [Nat.testBit_or, testBit_compl n x i hx, testBit_compl n (x - 2 ^ b) i (Nat.lt_of_le_of_lt (Nat.sub_le _ _) hx), testBit_sub x b i h256 (by omega) h, Nat.testBit_two_pow]
  by_cases e : b = i
  · subst e; simp [hb]
  · have e' : ¬ i = b := fun h => e h.symm
    simp [e, e']
/-- 'x &^ met' where met is what is not left. -/
theorem andNot_compl (n x left : Nat) (hn : n ≤ 8) (hx : x < 2 ^ n) (hl : left < 2 ^ n) : Go.bits .andNot .i64 (x : Int) ((2 ^ n - 1 - left : Nat) : Int) = ((x &&& left : Nat) : Int) := by
  have h8 : (2 : Nat) ^ n ≤ 256 := by have : (2 : Nat) ^ n ≤ 2 ^ 8 := Nat.pow_le_pow_right (by omega) hn; omega
  rw [andNot_nat x _ (by omega) (by have := compl_lt n left; omega)]
  congr 1
  symm
  have hxl : x &&& left < 2 ^ 8 := Nat.lt_of_le_of_lt Nat.and_le_left (by omega)
  refine eq_ofB 8 _ _ hxl fun i _ => ?_
  rw [Nat.testBit_and, testBit_compl n left i hl]
  by_cases hi : i < n
  · simp [hi]
  · rw [Nat.testBit_lt_two_pow (Nat.lt_of_lt_of_le hx (Nat.pow_le_pow_right (by omega) (by omega)))]
    simp
end Go.Proofs.Ytaocjjocncoahaa

namespace Go.Proofs.Ytaocjjocncoahaa
open Go.RowKit
theorem pc_all (n : Nat) (hn : n ≤ 8) : pc 8 (2 ^ n - 1) = n := by
  have h : n = 0 ∨ n = 1 ∨ n = 2 ∨ n = 3 ∨ n = 4 ∨ n = 5 ∨ n = 6 ∨ n = 7 ∨ n = 8 := by omega
  rcases h with rfl | rfl | rfl | rfl | rfl | rfl | rfl | rfl | rfl <;> decide
theorem all_bit (n a : Nat) (ha : a < n) : (2 ^ n - 1).testBit a = true := by rw [Nat.testBit_two_pow_sub_one]; simp [ha]
/-- All but a. -/
def others (n a : Nat) : Nat := 2 ^ n - 1 - 2 ^ a
theorem others_ok (n a : Nat) (hn : n ≤ 8) (ha : a < n) : others n a < 2 ^ n ∧ pc 8 (others n a) = n - 1 ∧ others n a + 2 ^ a = 2 ^ n - 1 ∧ 2 ^ n - 1 - others n a = 2 ^ a := by
  have h1 := all_bit n a ha
  have h2 : (2 : Nat) ^ n ≤ 256 := pow_le8 n hn
  have hp := Nat.two_pow_pos n
  have h3 := pc_sub (2 ^ n - 1) a (by omega) (by omega) h1
  have h4 := (sub_bit (2 ^ n - 1) a (by omega) (by omega) h1).2
  rw [pc_all n hn] at h3
  unfold others
  generalize hM : (2 : Nat) ^ a = M at *
  generalize hN : (2 : Nat) ^ n = N at *
  refine ⟨by omega, by omega, by omega, by omega⟩
end Go.Proofs.Ytaocjjocncoahaa
