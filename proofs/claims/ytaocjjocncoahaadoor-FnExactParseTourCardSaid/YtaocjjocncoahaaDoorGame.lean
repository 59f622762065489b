/- Plain: the tour of its games' results. -/
import Derived.Test.YtaocjjocncoahaaDoorTourOf
namespace Go.Proofs.YtaocjjocncoahaaDoor
set_option linter.unusedVariables false
set_option linter.unusedSimpArgs false
open Go.RowKit

/-- How many games stand ahead of the earlier player a's. -/
def off (n : Nat) : Nat → Nat
  | 0 => 0
  | a + 1 => off n a + (n - 1 - a)
/-- The place of the game of a and b, a < b. -/
def gpos (n a b : Nat) : Nat := off n a + (b - a - 1)
theorem bt_rows (n : Nat) (f : Nat → Nat → Bool) (i j : Nat) (hi : i < n) (hj : j < n) (hij : i ≠ j) : bt (rowsOf n f) i j = f i j := by
  unfold bt
  rw [getD_lt _ _ _ (by rw [rowsOf_length]; exact hi)]
  simp [rowsOf, testBit_ofB, hj, hb, hij]
theorem bt_rows_self (n : Nat) (f : Nat → Nat → Bool) (i : Nat) : bt (rowsOf n f) i i = false := by
  by_cases hi : i < n
  · unfold bt
    rw [getD_lt _ _ _ (by rw [rowsOf_length]; exact hi)]
    simp [rowsOf, testBit_ofB, hb]
  · exact bt_out _ _ (by rw [rowsOf_length]; omega)
/-- The tour of n players whose k-th game is g k. -/
def gameF (n : Nat) (g : Nat → Bool) (a b : Nat) : Bool := if a < b then g (gpos n a b) else !g (gpos n b a)
def gameV (n : Nat) (g : Nat → Bool) : List Nat := rowsOf n (gameF n g)
theorem gameV_ok (n : Nat) (g : Nat → Bool) (h1 : 1 ≤ n) (h8 : n ≤ 8) : IsT (gameV n g) := by
  unfold gameV
  refine ⟨by rw [rowsOf_length]; exact h1, by rw [rowsOf_length]; exact h8, fun i => ?_, fun a => bt_rows_self _ _ _, fun a b ha hb hab => ?_⟩
  · by_cases hi : i < n
    · have e : (rowsOf n (gameF n g)).getD i 0 = ofB n (hb (gameF n g) i) := by
        rw [getD_lt _ _ _ (by rw [rowsOf_length]; exact hi)]
        simp [rowsOf]
      rw [e, rowsOf_length]
      exact ofB_lt _ _
    · rw [List.getD, List.getElem?_eq_none (by rw [rowsOf_length]; omega), rowsOf_length]
      exact Nat.two_pow_pos n
  · rw [rowsOf_length] at ha hb
    rw [bt_rows _ _ _ _ ha hb hab, bt_rows _ _ _ _ hb ha (Ne.symm hab)]
    unfold gameF
    by_cases h : a < b
    · rw [if_pos h, if_neg (by omega), Bool.not_not]
    · rw [if_neg h, if_pos (by omega)]
theorem isT_ext (V W : List Nat) (hV : IsT V) (hW : IsT W) (hl : V.length = W.length) (h : ∀ a b, a < b → b < W.length → bt V a b = bt W a b) : V = W := by
  have hall : ∀ a b, a < W.length → b < W.length → bt V a b = bt W a b := by
    intro a b ha hb
    by_cases e : a = b
    · subst e; rw [hV.self, hW.self]
    · by_cases hab : a < b
      · exact h a b hab hb
      · rw [hV.pair a b (by omega) (by omega) e, hW.pair a b ha hb e, h b a (by omega) ha]
  refine List.ext_getElem hl fun i h1 h2 => ?_
  refine Nat.eq_of_testBit_eq fun j => ?_
  have e1 : V[i].testBit j = bt V i j := (bt_lt h1).symm
  have e2 : W[i].testBit j = bt W i j := (bt_lt h2).symm
  rw [e1, e2]
  by_cases hj : j < W.length
  · exact hall i j h2 hj
  · rw [hV.out i j (by omega), hW.out i j (by omega)]
theorem game_build (W : List Nat) (hW : IsT W) (g : Nat → Bool) (hg : ∀ a b, a < b → b < W.length → g (gpos W.length a b) = bt W a b) : gameV W.length g = W := by
  have hV := gameV_ok W.length g hW.h1 hW.h8
  refine isT_ext _ _ hV hW (rowsOf_length _ _) fun a b hab hb => ?_
  unfold gameV
  rw [bt_rows _ _ _ _ (by omega) hb (by omega)]
  unfold gameF
  rw [if_pos hab]
  exact hg a b hab hb
/-- The rows when the pairs ahead of (a, b) are done. -/
def done (a b i j : Nat) : Bool := decide (i ≠ j) && (decide (min i j < a) || (decide (min i j = a) && decide (max i j < b)))
def gst (n : Nat) (g : Nat → Bool) (a b : Nat) : List Nat := (List.range n).map fun i => ofB n fun j => done a b i j && gameF n g i j
theorem gst_length (n : Nat) (g : Nat → Bool) (a b : Nat) : (gst n g a b).length = n := by simp [gst]
theorem gst_get (n : Nat) (g : Nat → Bool) (a b i : Nat) (h : i < (gst n g a b).length) : (gst n g a b)[i] = ofB n fun j => done a b i j && gameF n g i j := by simp [gst]
theorem gst_zero (n : Nat) (g : Nat → Bool) : gst n g 0 0 = List.replicate n 0 := by
  rw [List.eq_replicate_iff]
  refine ⟨gst_length _ _ _ _, fun x hx => ?_⟩
  simp only [gst, List.mem_map] at hx
  obtain ⟨i, _, rfl⟩ := hx
  refine Nat.eq_of_testBit_eq fun j => ?_
  rw [testBit_ofB]
  simp [done]
theorem gst_congr (n : Nat) (g : Nat → Bool) (a b a' b' : Nat) (h : ∀ i j, i < n → j < n → done a b i j = done a' b' i j) : gst n g a b = gst n g a' b' := by
  refine List.map_congr_left fun i hi => ?_
  rw [List.mem_range] at hi
  exact ofB_congr _ _ _ fun j hj => by rw [h i j hi hj]
theorem gst_low (n : Nat) (g : Nat → Bool) (a b : Nat) (h : b ≤ a + 1) : gst n g a b = gst n g a 0 := gst_congr n g a b a 0 fun i j _ _ => by
  unfold done
  by_cases e : i = j
  · simp [e]
  · by_cases k : min i j = a
    · simp only [k, Nat.not_lt_zero]
      have : ¬ max i j < b := by omega
      simp [this]
    · simp [k]
theorem gst_next (n : Nat) (g : Nat → Bool) (a : Nat) : gst n g a n = gst n g (a + 1) 0 := gst_congr n g a n (a + 1) 0 fun i j hi hj => by
  unfold done
  by_cases e : i = j
  · simp [e]
  · by_cases k : min i j = a
    · have h1 : max i j < n := by omega
      have h2 : min i j < a + 1 := by omega
      simp [k, h1, h2]
    · by_cases h : min i j < a
      · have h2 : min i j < a + 1 := by omega
        simp [h, h2]
      · have h2 : ¬ min i j < a + 1 := by omega
        simp [k, h, h2]
theorem gst_end (n : Nat) (g : Nat → Bool) : gst n g n 0 = gameV n g := by
  unfold gameV rowsOf
  refine List.map_congr_left fun i hi => ?_
  rw [List.mem_range] at hi
  refine ofB_congr _ _ _ fun j hj => ?_
  unfold done hb
  by_cases e : i = j
  · simp [e]
  · have : min i j < n := by omega
    simp [this]
theorem done_step (a b i j : Nat) (hab : a < b) : done a (b + 1) i j = (done a b i j || ((decide (i = a) && decide (j = b)) || (decide (i = b) && decide (j = a)))) := by
  rw [Bool.eq_iff_iff]
  unfold done
  simp only [Bool.and_eq_true, Bool.or_eq_true, decide_eq_true_eq, ne_eq]
  omega
/-- The pair (a, b) is decided: the winner's row gains a bit. -/
theorem gst_win (n : Nat) (g : Nat → Bool) (a b : Nat) (hab : a < b) (hb : b < n) (hg : g (gpos n a b) = true) :
    (gst n g a b).set a ((ofB n fun j => done a b a j && gameF n g a j) ||| 2 ^ b) = gst n g a (b + 1) := by
  apply List.ext_getElem
  · rw [List.length_set, gst_length, gst_length]
  · intro i h1 h2
    rw [List.getElem_set, gst_get]
    refine Nat.eq_of_testBit_eq fun j => ?_
    by_cases e : a = i
    · subst e
      rw [if_pos rfl, Nat.testBit_or, Nat.testBit_two_pow, gst_get, testBit_ofB, testBit_ofB, done_step a b a j hab]
      by_cases ej : b = j
      · subst ej
        have hf : gameF n g a b = true := by unfold gameF; rw [if_pos hab]; exact hg
        simp [hb, hf]
      · have ej' : ¬ j = b := fun h => ej h.symm
        have ea : ¬ a = b := by omega
        simp [ej, ej', ea]
    · rw [if_neg e, gst_get, testBit_ofB, testBit_ofB, done_step a b i j hab]
      by_cases ei : i = b
      · subst ei
        by_cases ej : j = a
        · subst ej
          have hf : gameF n g i j = false := by unfold gameF; rw [if_neg (by omega), hg]; rfl
          simp [hf]
        · have e2 : ¬ i = a := fun h => e h.symm
          simp [ej, e2]
      · have e' : ¬ i = a := fun h => e h.symm
        simp [ei, e']
theorem gst_lose (n : Nat) (g : Nat → Bool) (a b : Nat) (hab : a < b) (hb : b < n) (hg : g (gpos n a b) = false) :
    (gst n g a b).set b ((ofB n fun j => done a b b j && gameF n g b j) ||| 2 ^ a) = gst n g a (b + 1) := by
  apply List.ext_getElem
  · rw [List.length_set, gst_length, gst_length]
  · intro i h1 h2
    rw [List.getElem_set, gst_get]
    refine Nat.eq_of_testBit_eq fun j => ?_
    by_cases e : b = i
    · subst e
      rw [if_pos rfl, Nat.testBit_or, Nat.testBit_two_pow, gst_get, testBit_ofB, testBit_ofB, done_step a b b j hab]
      by_cases ej : a = j
      · subst ej
        have hf : gameF n g b a = true := by unfold gameF; rw [if_neg (by omega), hg]; rfl
        have han : a < n := by omega
        simp [han, hf]
      · have ej' : ¬ j = a := fun h => ej h.symm
        have ea : ¬ b = a := by omega
        simp [ej, ej', ea]
    · rw [if_neg e, gst_get, testBit_ofB, testBit_ofB, done_step a b i j hab]
      by_cases ei : i = a
      · subst ei
        by_cases ej : j = b
        · subst ej
          have hf : gameF n g i j = false := by unfold gameF; rw [if_pos hab]; exact hg
          simp [hf]
        · have e2 : ¬ i = b := fun h => e h.symm
          simp [ej, e2]
      · have e' : ¬ i = b := fun h => e h.symm
        simp [ei, e']
end Go.Proofs.YtaocjjocncoahaaDoor
