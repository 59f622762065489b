/- CountKings, plain: the tours of n players by their numbers; how many have k kings. -/
import Derived.Test.YtaocjjocncoahaaGame
import Derived.Test.YtaocjjocncoahaaFlip
import Derived.Test.YtaocjjocncoahaaKings
namespace Go.Proofs.Ytaocjjocncoahaa
open Go.RowKit

/-- The first q bits of a number. -/
def curG (cd q : Nat) (k : Nat) : Bool := decide (k < q) && cd.testBit k
theorem gpos_all : ((List.range 9).all fun n => (List.range n).all fun b => (List.range b).all fun a => (List.range n).all fun y => (List.range y).all fun x => gpos n x y != gpos n a b || (x == a && y == b)) = true := by decide +kernel
theorem gpos_eq (n a b x y : Nat) (h8 : n ≤ 8) (hab : a < b) (hb : b < n) (hxy : x < y) (hy : y < n) (h : gpos n x y = gpos n a b) : x = a ∧ y = b := by
  have h1 := List.all_eq_true.1 gpos_all n (List.mem_range.2 (by omega))
  have h2 := List.all_eq_true.1 h1 b (List.mem_range.2 hb)
  have h3 := List.all_eq_true.1 h2 a (List.mem_range.2 hab)
  have h4 := List.all_eq_true.1 h3 y (List.mem_range.2 hy)
  have h5 := List.all_eq_true.1 h4 x (List.mem_range.2 hxy)
  simpa [h] using h5
theorem gpos_top (m a b : Nat) (h8 : m ≤ 8) (hab : a < b) (hb : b < m) : gpos m a b < off m m := by
  have : ∀ m, m < 9 → ∀ b, b < m → ∀ a, a < b → gpos m a b < off m m := by decide +kernel
  exact this m (by omega) b hb a hab
theorem bt_gameV (n : Nat) (g : Nat → Bool) (a b : Nat) (hab : a < b) (hb : b < n) : bt (gameV n g) a b = g (gpos n a b) := by
  unfold gameV
  rw [bt_rows _ _ _ _ (by omega) hb (by omega)]
  unfold gameF
  rw [if_pos hab]
theorem gameV_length (n : Nat) (g : Nat → Bool) : (gameV n g).length = n := by unfold gameV; rw [rowsOf_length]
theorem gameV_congr (n : Nat) (f g : Nat → Bool) (h1 : 1 ≤ n) (h8 : n ≤ 8) (h : ∀ a b, a < b → b < n → f (gpos n a b) = g (gpos n a b)) : gameV n f = gameV n g := by
  refine isT_ext _ _ (gameV_ok n f h1 h8) (gameV_ok n g h1 h8) (by rw [gameV_length, gameV_length]) fun a b hab hb => ?_
  rw [gameV_length] at hb
  rw [bt_gameV n f a b hab hb, bt_gameV n g a b hab hb]
  exact h a b hab hb
/-- The later of two beats the earlier: the tour that has the number 0. -/
theorem game_zero (n cd : Nat) : rowsOf n (fun a b => decide (b < a)) = gameV n (curG cd 0) := by
  unfold gameV rowsOf
  refine List.map_congr_left fun i _ => ofB_congr _ _ _ fun j _ => ?_
  unfold hb gameF curG
  by_cases e : i = j
  · simp [e]
  · by_cases h : i < j
    · simp [h, show ¬ j < i by omega]
    · simp [h, show j < i by omega]
theorem game_skip (n cd a b : Nat) (h1 : 1 ≤ n) (h8 : n ≤ 8) (_ : a < b) (_ : b < n) (h : cd.testBit (gpos n a b) = false) : gameV n (curG cd (gpos n a b + 1)) = gameV n (curG cd (gpos n a b)) := by
  refine gameV_congr n _ _ h1 h8 fun x y _ _ => ?_
  unfold curG
  by_cases e : gpos n x y = gpos n a b
  · rw [e, h]; simp
  · have : (decide (gpos n x y < gpos n a b + 1)) = decide (gpos n x y < gpos n a b) := by rw [decide_eq_decide]; omega
    rw [this]
theorem game_flip (n cd a b : Nat) (h1 : 1 ≤ n) (h8 : n ≤ 8) (hab : a < b) (hb : b < n) (h : cd.testBit (gpos n a b) = true) : flipW (gameV n (curG cd (gpos n a b))) a b = gameV n (curG cd (gpos n a b + 1)) := by
  have hT := gameV_ok n (curG cd (gpos n a b)) h1 h8
  refine isT_ext _ _ (flipW_ok _ hT a b (by rw [gameV_length]; omega) (by rw [gameV_length]; omega) (by omega)) (gameV_ok n _ h1 h8) (by rw [flipW_length, gameV_length, gameV_length]) fun x y hxy hy => ?_
  rw [gameV_length] at hy
  rw [bt_flipW _ _ _ _ _ (by rw [gameV_length]; omega) (by rw [gameV_length]; omega), bt_gameV n _ x y hxy hy, bt_gameV n _ x y hxy hy]
  unfold curG
  by_cases e : x = a ∧ y = b
  · obtain ⟨rfl, rfl⟩ := e
    have h2 : ¬ x = y := by omega
    simp [h, h2]
  · have hne : gpos n x y ≠ gpos n a b := fun e2 => e (gpos_eq n a b x y h8 hab hb hxy hy e2)
    have e1 : (decide (x = a) && decide (y = b)) = false := by rw [Bool.eq_false_iff]; simp only [ne_eq, Bool.and_eq_true, decide_eq_true_eq]; exact e
    have e2 : (decide (x = b) && decide (y = a)) = false := by rw [Bool.eq_false_iff]; simp only [ne_eq, Bool.and_eq_true, decide_eq_true_eq]; omega
    have : (decide (gpos n x y < gpos n a b + 1)) = decide (gpos n x y < gpos n a b) := by rw [decide_eq_decide]; omega
    rw [e1, e2, this]; simp
theorem game_full (n cd : Nat) (h1 : 1 ≤ n) (h8 : n ≤ 8) : gameV n (curG cd (off n n)) = gameV n (fun k => cd.testBit k) := by
  refine gameV_congr n _ _ h1 h8 fun x y hxy hy => ?_
  unfold curG
  simp [gpos_top n x y h8 hxy hy]
/-- How many of the first m tours have k kings. -/
def kingsIs (n k c : Nat) : Bool := pc 8 (kingsN (gameV n fun j => c.testBit j)) == k
def kc (n k : Nat) : Nat → Nat
  | 0 => 0
  | m + 1 => kc n k m + if kingsIs n k m then 1 else 0
theorem kc_le (n k m : Nat) : kc n k m ≤ m := by
  induction m with
  | zero => exact Nat.le_refl _
  | succ m ih => rw [kc]; split <;> omega
def rCountKings (n k : Int) : Int := if (1 ≤ n ∧ n ≤ 5) ∧ (0 ≤ k ∧ k ≤ n) then (kc n.toNat k.toNat (2 ^ off n.toNat n.toNat) : Nat) else -1
theorem kings_lt (W : List Nat) (hT : IsT W) : kingsN W < 256 := by
  unfold kingsN
  exact Nat.lt_of_lt_of_le (ofB_lt _ _) (pow_le8 _ hT.h8)
/-- n * (n - 1) / 2 of at most 5. -/
theorem pairs5 (n : Nat) (h1 : 1 ≤ n) (h5 : n ≤ 5) : ∃ p q : Nat, (n : Int) * ((n : Int) - 1) = (p : Int) ∧ (p : Int) / 2 = (q : Int) ∧ off n n = q ∧ q ≤ 10 ∧ p ≤ 20 := by
  have : ∀ n : Nat, n < 6 → 1 ≤ n → (n : Int) * ((n : Int) - 1) = ((n * (n - 1) : Nat) : Int) ∧ ((n * (n - 1) : Nat) : Int) / 2 = ((n * (n - 1) / 2 : Nat) : Int) ∧ off n n = n * (n - 1) / 2 ∧ n * (n - 1) / 2 ≤ 10 ∧ n * (n - 1) ≤ 20 := by decide +kernel
  exact ⟨_, _, this n (by omega) h1⟩
theorem pow10 (q : Nat) (h : q ≤ 10) : (2 : Nat) ^ q ≤ 1024 ∧ 1 ≤ (2 : Nat) ^ q := ⟨Nat.le_trans (Nat.pow_le_pow_right (by omega) h) (by decide), Nat.one_le_two_pow⟩
end Go.Proofs.Ytaocjjocncoahaa
