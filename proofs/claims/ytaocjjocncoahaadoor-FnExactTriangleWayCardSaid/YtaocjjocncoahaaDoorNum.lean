/- The number of a tour: its games' bits. -/
import Derived.Test.YtaocjjocncoahaaDoorGame
import Derived.Test.YtaocjjocncoahaaDoorFlip
import Derived.Test.YtaocjjocncoahaaDoorTriang
namespace Go.Proofs.YtaocjjocncoahaaDoor
set_option linter.unusedVariables false
set_option linter.unusedSimpArgs false
open Go.RowKit

/-- The result of the k-th game. -/
def gm (W : List Nat) (k : Nat) : Bool := (List.range W.length).any fun b => (List.range b).any fun a => gpos W.length a b == k && bt W a b
def numW (W : List Nat) : Nat := ofB (off W.length W.length) (gm W)
theorem gposN_all : ((List.range 9).all fun n => (List.range n).all fun b => (List.range b).all fun a => (List.range n).all fun y => (List.range y).all fun x => gpos n x y != gpos n a b || (x == a && y == b)) = true := by decide +kernel
theorem gposN_eq (n a b x y : Nat) (h8 : n ≤ 8) (hab : a < b) (hb : b < n) (hxy : x < y) (hy : y < n) (h : gpos n x y = gpos n a b) : x = a ∧ y = b := by
  have h1 := List.all_eq_true.1 gposN_all n (List.mem_range.2 (by omega))
  have h2 := List.all_eq_true.1 h1 b (List.mem_range.2 hb)
  have h3 := List.all_eq_true.1 h2 a (List.mem_range.2 hab)
  have h4 := List.all_eq_true.1 h3 y (List.mem_range.2 hy)
  have h5 := List.all_eq_true.1 h4 x (List.mem_range.2 hxy)
  simpa [h] using h5
theorem gposN_top (m a b : Nat) (h8 : m ≤ 8) (hab : a < b) (hb : b < m) : gpos m a b < off m m := by
  have : ∀ m, m < 9 → ∀ b, b < m → ∀ a, a < b → gpos m a b < off m m := by decide +kernel
  exact this m (by omega) b hb a hab
theorem gposN_on (m k : Nat) (h8 : m ≤ 8) (hk : k < off m m) : ∃ b, b < m ∧ ∃ a, a < b ∧ gpos m a b = k := by
  have : ∀ m, m < 9 → ∀ k, k < off m m → ∃ b, b < m ∧ ∃ a, a < b ∧ gpos m a b = k := by decide +kernel
  exact this m (by omega) k hk
theorem gm_at (W : List Nat) (h8 : W.length ≤ 8) (a b : Nat) (hab : a < b) (hb : b < W.length) : gm W (gpos W.length a b) = bt W a b := by
  unfold gm
  rw [Bool.eq_iff_iff, List.any_eq_true]
  constructor
  · rintro ⟨y, hy, h⟩
    rw [List.any_eq_true] at h
    obtain ⟨x, hx, h⟩ := h
    rw [List.mem_range] at hx hy
    rw [Bool.and_eq_true, beq_iff_eq] at h
    obtain ⟨rfl, rfl⟩ := gposN_eq _ a b x y h8 hab hb hx hy h.1
    exact h.2
  · intro h
    refine ⟨b, List.mem_range.2 hb, ?_⟩
    rw [List.any_eq_true]
    exact ⟨a, List.mem_range.2 hab, by rw [h]; simp⟩
theorem numW_bit (W : List Nat) (h8 : W.length ≤ 8) (a b : Nat) (hab : a < b) (hb : b < W.length) : (numW W).testBit (gpos W.length a b) = bt W a b := by
  unfold numW
  rw [testBit_ofB, gm_at W h8 a b hab hb, decide_eq_true (gposN_top _ a b h8 hab hb), Bool.true_and]
theorem num_back (W : List Nat) (hT : IsT W) : gameV W.length (fun k => (numW W).testBit k) = W := game_build W hT _ fun a b hab hb => numW_bit W hT.h8 a b hab hb
theorem numW_lt (W : List Nat) : numW W < 2 ^ off W.length W.length := ofB_lt _ _
theorem num_inj {V W : List Nat} (hV : IsT V) (hW : IsT W) (hl : V.length = W.length) (h : numW V = numW W) : V = W := by
  rw [← num_back V hV, ← num_back W hW, h, hl]
theorem game_bt (n : Nat) (g : Nat → Bool) (a b : Nat) (hab : a < b) (hb : b < n) : bt (gameV n g) a b = g (gpos n a b) := by
  unfold gameV
  rw [bt_rows _ _ _ _ (by omega) hb (by omega)]
  unfold gameF
  rw [if_pos hab]
theorem game_len (n : Nat) (g : Nat → Bool) : (gameV n g).length = n := by unfold gameV; rw [rowsOf_length]
theorem num_game (n c : Nat) (h8 : n ≤ 8) (hc : c < 2 ^ off n n) : numW (gameV n fun k => c.testBit k) = c := by
  unfold numW
  rw [game_len]
  symm
  refine eq_ofB _ _ _ hc fun k hk => ?_
  obtain ⟨b, hb, a, hab, rfl⟩ := gposN_on n k h8 hk
  have := gm_at (gameV n fun k => c.testBit k) (by rw [game_len]; exact h8) a b hab (by rw [game_len]; exact hb)
  rw [game_len] at this
  rw [this, game_bt n _ a b hab hb]

/-! ### A triangle turned -/
theorem turnL_tri (W : List Nat) (x y z : Nat) : turnL W (tri3 x y z) = turnedW W x y z := by
  unfold turnL tri3
  simp
theorem turn_ok {W : List Nat} (hT : IsT W) {x y z : Nat} (hx : x < W.length) (hy : y < W.length) (hz : z < W.length) (h : triN W x y z = true) : IsT (turnedW W x y z) := by
  obtain ⟨h1, h2, h3⟩ := triN_ne hT h
  unfold turnedW
  refine flipW_ok _ (flipW_ok _ (flipW_ok _ hT x y hx hy h1) y z ?_ ?_ h2) z x ?_ ?_ h3
  all_goals simp only [flipW_length]; assumption
theorem turn_bt {W : List Nat} {x y z : Nat} (hx : x < W.length) (hy : y < W.length) (hz : z < W.length) (i j : Nat) :
    bt (turnedW W x y z) i j = (((bt W i j ^^ ((decide (i = x) && decide (j = y)) ^^ (decide (i = y) && decide (j = x)))) ^^ ((decide (i = y) && decide (j = z)) ^^ (decide (i = z) && decide (j = y)))) ^^ ((decide (i = z) && decide (j = x)) ^^ (decide (i = x) && decide (j = z)))) := by
  unfold turnedW
  rw [bt_flipW _ _ _ _ _ (by simp only [flipW_length]; exact hz) (by simp only [flipW_length]; exact hx), bt_flipW _ _ _ _ _ (by simp only [flipW_length]; exact hy) (by simp only [flipW_length]; exact hz), bt_flipW _ _ _ _ _ hx hy]
theorem triN_iff {W : List Nat} {x y z : Nat} : triN W x y z = true ↔ x < y ∧ x < z ∧ bt W x y = true ∧ bt W y z = true ∧ bt W z x = true := by
  unfold triN
  simp only [Bool.and_eq_true, decide_eq_true_eq]
  exact ⟨fun ⟨⟨⟨⟨a, b⟩, c⟩, d⟩, e⟩ => ⟨a, b, c, d, e⟩, fun ⟨a, b, c, d, e⟩ => ⟨⟨⟨⟨a, b⟩, c⟩, d⟩, e⟩⟩
/-- The turned triangle is one again, and turned once more gives the tour back. -/
theorem turn_back {W : List Nat} (hT : IsT W) {x y z : Nat} (hx : x < W.length) (hy : y < W.length) (hz : z < W.length) (h : triN W x y z = true) :
    triN (turnedW W x y z) x z y = true ∧ turnedW (turnedW W x y z) x z y = W := by
  obtain ⟨n1, n2, n3⟩ := triN_ne hT h
  obtain ⟨a1, a2, a3, a4, a5⟩ := triN_iff.1 h
  have b1 : bt W x z = false := by rw [hT.pair x z hx hz (Ne.symm n3), a5]; rfl
  have b2 : bt W z y = false := by rw [hT.pair z y hz hy (Ne.symm n2), a4]; rfl
  have b3 : bt W y x = false := by rw [hT.pair y x hy hx (Ne.symm n1), a3]; rfl
  have hO := turn_ok hT hx hy hz h
  have hL := turnedW_length W x y z
  have ht : triN (turnedW W x y z) x z y = true := by
    refine triN_iff.2 ⟨a2, a1, ?_, ?_, ?_⟩
    · rw [turn_bt hx hy hz, b1]; simp [n1, n2, n3, Ne.symm n1, Ne.symm n2, Ne.symm n3]
    · rw [turn_bt hx hy hz, b2]; simp [n1, n2, n3, Ne.symm n1, Ne.symm n2, Ne.symm n3]
    · rw [turn_bt hx hy hz, b3]; simp [n1, n2, n3, Ne.symm n1, Ne.symm n2, Ne.symm n3]
  refine ⟨ht, ?_⟩
  refine isT_ext _ _ (turn_ok hO (by rw [hL]; exact hx) (by rw [hL]; exact hz) (by rw [hL]; exact hy) ht) hT (by rw [turnedW_length, hL]) fun i j hij hj => ?_
  rw [turn_bt (by rw [hL]; exact hx) (by rw [hL]; exact hz) (by rw [hL]; exact hy), turn_bt hx hy hz]
  cases decide (i = x) <;> cases decide (i = y) <;> cases decide (i = z) <;> cases decide (j = x) <;> cases decide (j = y) <;> cases decide (j = z) <;> cases bt W i j <;> rfl
end Go.Proofs.YtaocjjocncoahaaDoor
