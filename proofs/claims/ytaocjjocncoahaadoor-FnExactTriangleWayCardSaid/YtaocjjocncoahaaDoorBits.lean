/- Plain facts on sets of small numbers written as the bits of a natural number. No program. -/
namespace Go.Proofs.YtaocjjocncoahaaDoor

/-- The number whose bit i is f i, for i below n. -/
def ofB : Nat → (Nat → Bool) → Nat
  | 0, _ => 0
  | n + 1, f => ofB n f + if f n then 2 ^ n else 0

theorem ofB_lt (n : Nat) (f : Nat → Bool) : ofB n f < 2 ^ n := by
  induction n with
  | zero => simp [ofB]
  | succ n ih =>
    have : 2 ^ (n + 1) = 2 ^ n + 2 ^ n := by rw [Nat.pow_succ]; omega
    unfold ofB
    split <;> omega

theorem testBit_ofB (n : Nat) (f : Nat → Bool) (i : Nat) : (ofB n f).testBit i = (decide (i < n) && f i) := by
  induction n with
  | zero => simp [ofB]
  | succ n ih =>
    unfold ofB
    have hl := ofB_lt n f
    by_cases hf : f n = true
    · rw [if_pos hf, Nat.add_comm]
      by_cases e : i = n
      · subst e
        rw [Nat.testBit_two_pow_add_eq, Nat.testBit_lt_two_pow hl]
        simp [hf]
      · by_cases hlt : i < n
        · rw [Nat.testBit_two_pow_add_gt hlt, ih]
          simp [hlt, Nat.lt_succ_of_lt hlt]
        · have h2 : 2 ^ n + ofB n f < 2 ^ i := by
            have a : 2 ^ (n + 1) ≤ 2 ^ i := Nat.pow_le_pow_right (by omega) (by omega)
            rw [Nat.pow_succ] at a
            omega
          rw [Nat.testBit_lt_two_pow h2]
          have : ¬ i < n + 1 := by omega
          simp [this]
    · rw [if_neg hf, Nat.add_zero, ih]
      by_cases e : i = n
      · subst e; simp [hf]
      · have : (i < n + 1) ↔ (i < n) := by omega
        simp [this]

theorem eq_ofB (n x : Nat) (f : Nat → Bool) (hx : x < 2 ^ n) (h : ∀ i, i < n → x.testBit i = f i) : x = ofB n f := by
  apply Nat.eq_of_testBit_eq
  intro i
  rw [testBit_ofB]
  by_cases hi : i < n
  · simp [hi, h i hi]
  · rw [Nat.testBit_lt_two_pow (Nat.lt_of_lt_of_le hx (Nat.pow_le_pow_right (by omega) (by omega)))]
    simp [hi]

theorem ofB_testBit (n x : Nat) (hx : x < 2 ^ n) : ofB n x.testBit = x := (eq_ofB n x _ hx (fun _ _ => rfl)).symm

theorem ofB_congr (n : Nat) (f g : Nat → Bool) (h : ∀ i, i < n → f i = g i) : ofB n f = ofB n g := by
  apply eq_ofB _ _ _ (ofB_lt n f)
  intro i hi
  rw [testBit_ofB]
  simp [hi, h i hi]

theorem ofB_or (n : Nat) (f : Nat → Bool) : ofB (n + 1) f = ofB n f ||| (if f n then 2 ^ n else 0) := by
  apply Nat.eq_of_testBit_eq
  intro i
  rw [testBit_ofB, Nat.testBit_or, testBit_ofB]
  by_cases e : i = n
  · subst e
    by_cases hf : f i = true <;> simp [hf]
  · have h1 : (i < n + 1) ↔ (i < n) := by omega
    by_cases hf : f n = true
    · simp [hf, h1, Ne.symm e]
    · simp [hf, h1]

/-- How many bits are set. -/
def pc : Nat → Nat → Nat
  | 0, _ => 0
  | n + 1, x => pc n x + if x.testBit n then 1 else 0

/-- The members of a set, in ascending order. -/
def mem (n x : Nat) : List Nat := (List.range n).filter x.testBit
theorem mem_mem (n x a : Nat) : a ∈ mem n x ↔ a < n ∧ x.testBit a = true := by simp [mem]
theorem mem_succ (n x : Nat) : mem (n + 1) x = mem n x ++ if x.testBit n then [n] else [] := by
  unfold mem
  rw [List.range_succ, List.filter_append]
  by_cases h : x.testBit n = true <;> simp [h]
theorem mem_length (n x : Nat) : (mem n x).length = pc n x := by
  induction n with
  | zero => simp [mem, pc]
  | succ n ih =>
    rw [mem_succ, List.length_append, ih, pc]
    split <;> simp
theorem pc_le (n x : Nat) : pc n x ≤ n := by
  rw [← mem_length]
  exact Nat.le_trans (List.length_filter_le _ _) (by simp)

/-! ### Shifts and masks as they stand on Int -/
theorem shr_one (x b : Nat) : ((x : Int) / 2 ^ b) % 2 = if x.testBit b then 1 else 0 := by
  have h1 : ((x : Int) / 2 ^ b) % 2 = ((x / 2 ^ b % 2 : Nat) : Int) := by
    have e : ((2 : Int) ^ b) = ((2 ^ b : Nat) : Int) := by simp
    rw [e]; omega
  rw [h1, Nat.testBit_eq_decide_div_mod_eq]
  by_cases h : x / 2 ^ b % 2 = 1
  · simp only [h, decide_true, if_true]; rfl
  · simp only [h, decide_false]; simp; omega
end Go.Proofs.YtaocjjocncoahaaDoor
