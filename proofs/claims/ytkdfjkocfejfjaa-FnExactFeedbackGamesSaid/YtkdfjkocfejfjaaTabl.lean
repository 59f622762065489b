/- The table of best orders: plain functions, bounds. No program. -/
import Derived.Test.YtkdfjkocfejfjaaBits3
import Derived.Test.YtkdfjkocfejfjaaIsT
namespace Go.Proofs.Ytkdfjkocfejfjaa
open Go.RowKit

/-- The reversals of a who stands ahead of those that are left. -/
def cst (W : List Nat) (a left : Nat) : Nat := pc 8 (ofB 8 (fun i => left.testBit i && !(W.getD a 0).testBit i))
theorem cst_le (W : List Nat) (a left : Nat) : cst W a left ≤ 8 := pc_le 8 _
/-- The cost of a as the first one of s. -/
def costT (W : List Nat) (L : List (Nat × Nat)) (s a : Nat) : Nat := (L.getD (s - 2 ^ a) (0, 0)).1 + cst W a (s - 2 ^ a)
def wayT (L : List (Nat × Nat)) (s a : Nat) : Nat := (L.getD (s - 2 ^ a) (0, 0)).2
def stepT (W : List Nat) (L : List (Nat × Nat)) (s : Nat) (st : Int × Nat) (a : Nat) : Int × Nat :=
  if st.1 < 0 ∨ (costT W L s a : Int) < st.1 then ((costT W L s a : Nat), wayT L s a) else if (costT W L s a : Int) = st.1 then (st.1, st.2 + wayT L s a) else st
/-- What has been found when j members of s have been tried. -/
def stK (W : List Nat) (L : List (Nat × Nat)) (s : Nat) : Nat → Int × Nat
  | 0 => (-1, 0)
  | j + 1 => stepT W L s (stK W L s j) ((mem 8 s).getD j 0)
def rowT (W : List Nat) (L : List (Nat × Nat)) (s : Nat) : Nat × Nat := if s = 0 then (0, 1) else ((stK W L s (mem 8 s).length).1.toNat, (stK W L s (mem 8 s).length).2)
/-- The table of the sets below k. -/
def tbl (W : List Nat) : Nat → List (Nat × Nat)
  | 0 => []
  | k + 1 => tbl W k ++ [rowT W (tbl W k) k]
theorem tbl_length (W : List Nat) (k : Nat) : (tbl W k).length = k := by
  induction k with
  | zero => rfl
  | succ k ih => simp [tbl, ih]
/-- The entry of s. -/
def ent (W : List Nat) (s : Nat) : Nat × Nat := rowT W (tbl W s) s
theorem tbl_at (W : List Nat) (k s : Nat) (h : s < k) : (tbl W k).getD s (0, 0) = ent W s := by
  induction k with
  | zero => omega
  | succ k ih =>
    rw [tbl]
    by_cases e : s = k
    · subst e
      rw [List.getD, List.getElem?_append_right (by rw [tbl_length]; omega), tbl_length]
      simp [ent]
    · rw [List.getD, List.getElem?_append_left (by rw [tbl_length]; omega), ← List.getD]
      exact ih (by omega)
theorem st_bd (W : List Nat) (L : List (Nat × Nat)) (s m M : Nat) (hL : ∀ a, a ∈ mem 8 s → (L.getD (s - 2 ^ a) (0, 0)).1 ≤ m ∧ wayT L s a ≤ M) (j : Nat) (hj : j ≤ (mem 8 s).length) :
    -1 ≤ (stK W L s j).1 ∧ (stK W L s j).1 ≤ (m + 8 : Nat) ∧ (0 < j → 0 ≤ (stK W L s j).1) ∧ (stK W L s j).2 ≤ j * M := by
  induction j with
  | zero => simp [stK]; omega
  | succ j ih =>
    obtain ⟨h1, h2, h3, h4⟩ := ih (by omega)
    have hm : (mem 8 s).getD j 0 ∈ mem 8 s := by
      rw [List.getD, List.getElem?_eq_getElem (by omega)]
      exact List.getElem_mem _
    obtain ⟨q1, q2⟩ := hL _ hm
    have hc : costT W L s ((mem 8 s).getD j 0) ≤ m + 8 := by unfold costT; have := cst_le W ((mem 8 s).getD j 0) (s - 2 ^ (mem 8 s).getD j 0); omega
    rw [stK, Nat.succ_mul]
    unfold stepT
    generalize stK W L s j = st at *
    generalize costT W L s ((mem 8 s).getD j 0) = x at *
    generalize wayT L s ((mem 8 s).getD j 0) = y at *
    generalize j * M = z at *
    split
    · refine ⟨by simp only; omega, by simp only; omega, fun _ => by simp only; omega, by simp only; omega⟩
    · rename_i hn
      split
      · refine ⟨h1, h2, fun _ => by simp only; omega, by simp only; omega⟩
      · exact ⟨h1, h2, fun _ => by omega, by omega⟩
theorem mem_left (s a : Nat) (hs : s < 256) (ha : a ∈ mem 8 s) : a < 8 ∧ s - 2 ^ a < s ∧ 2 ^ a ≤ s ∧ pc 8 s = pc 8 (s - 2 ^ a) + 1 := by
  obtain ⟨h8, hb⟩ := (mem_mem 8 s a).1 ha
  have := (sub_bit s a hs h8 hb).2
  have hp := Nat.two_pow_pos a
  exact ⟨h8, by omega, this, pc_sub s a hs h8 hb⟩
theorem ent_bd (W : List Nat) (s : Nat) (hs : s < 256) : (ent W s).1 ≤ 8 * pc 8 s ∧ (ent W s).2 ≤ 8 ^ pc 8 s := by
  induction s using Nat.strongRecOn with
  | _ s ih =>
    unfold ent rowT
    by_cases h0 : s = 0
    · rw [if_pos h0]
      refine ⟨Nat.zero_le _, Nat.pow_pos (by omega)⟩
    · rw [if_neg h0]
      obtain ⟨p, hp⟩ : ∃ p, pc 8 s = p + 1 := ⟨pc 8 s - 1, by have := (pc_zero s hs); omega⟩
      have hb := st_bd W (tbl W s) s (8 * p) (8 ^ p) (fun a ha => by
        obtain ⟨q1, q2, q3, q4⟩ := mem_left s a hs ha
        have e : pc 8 (s - 2 ^ a) = p := by omega
        have := ih (s - 2 ^ a) q2 (by omega)
        unfold wayT
        rw [tbl_at W s _ q2, ← e]
        exact this) (mem 8 s).length (Nat.le_refl _)
      obtain ⟨b1, b2, b3, b4⟩ := hb
      rw [hp]
      have hl : (mem 8 s).length ≤ 8 := by rw [mem_length]; exact pc_le 8 s
      have := Nat.mul_le_mul_right (8 ^ p) hl
      rw [Nat.pow_succ]
      refine ⟨by simp only; omega, by simp only; omega⟩
/-- The losses of a. -/
def lossN (W : List Nat) (a : Nat) : Nat := 2 ^ W.length - 1 - W.getD a 0 - 2 ^ a
theorem loss_facts (W : List Nat) (hT : IsT W) (a : Nat) (ha : a < W.length) : W.getD a 0 + 2 ^ a ≤ 2 ^ W.length - 1 ∧ ∀ i, (lossN W a).testBit i = (decide (i < W.length) && !(W.getD a 0).testBit i && decide (i ≠ a)) := by
  have h8 := hT.h8
  have hwa : W.getD a 0 < 2 ^ W.length := by rw [getD_lt _ _ _ ha]; exact hT.lt' ha
  have h256 := pow_le8 W.length h8
  have hc := compl_lt W.length (W.getD a 0)
  have hbit : (2 ^ W.length - 1 - W.getD a 0).testBit a = true := by
    rw [testBit_compl _ _ _ hwa]
    have : (W.getD a 0).testBit a = false := hT.self a
    rw [this]
    simp [ha]
  have h2 := (sub_bit _ a (by omega) (by omega) hbit).2
  refine ⟨by omega, fun i => ?_⟩
  unfold lossN
  rw [testBit_sub _ a i (by omega) (by omega) hbit, testBit_compl _ _ _ hwa]
/-- The program's cost of a as the first one of s. -/
theorem loss_cst (W : List Nat) (hT : IsT W) (a s : Nat) (ha : a < W.length) (hs : s < 2 ^ W.length) (hm : s.testBit a = true) : pc 8 (s &&& lossN W a) = cst W a (s - 2 ^ a) := by
  have h8 := hT.h8
  have h256 := pow_le8 W.length h8
  unfold cst
  congr 1
  refine eq_ofB 8 _ _ (Nat.lt_of_le_of_lt Nat.and_le_left (by omega)) fun i hi => ?_
  rw [Nat.testBit_and, (loss_facts W hT a ha).2, testBit_sub s a i (by omega) (by omega) hm]
  by_cases hn : i < W.length
  · rw [decide_eq_true hn, Bool.true_and, Bool.and_assoc]
    cases s.testBit i <;> cases (W.getD a 0).testBit i <;> simp
  · have : s.testBit i = false := Nat.testBit_lt_two_pow (Nat.lt_of_lt_of_le hs (Nat.pow_le_pow_right (by omega) (by omega)))
    rw [this]
    simp
end Go.Proofs.Ytkdfjkocfejfjaa
