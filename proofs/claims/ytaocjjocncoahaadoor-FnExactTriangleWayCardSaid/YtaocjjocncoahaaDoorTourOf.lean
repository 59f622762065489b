/- tourOf, walked: the tour with some results. -/
import Derived.Test.YtaocjjocncoahaaDoorKings
namespace Go.Proofs.YtaocjjocncoahaaDoor
open Go.RowKit

/-- Does i beat b: never himself. -/
def hb (f : Nat → Nat → Bool) (i b : Nat) : Bool := decide (i ≠ b) && f i b
/-- The rows of wins by some results. -/
def rowsOf (n : Nat) (f : Nat → Nat → Bool) : List Nat := (List.range n).map fun i => ofB n (hb f i)
/-- The rows when a players are done, and b results of the next. -/
def stOf (n : Nat) (f : Nat → Nat → Bool) (a b : Nat) : List Nat := (List.range n).map fun i => if i < a then ofB n (hb f i) else if i = a then ofB b (hb f i) else 0
theorem stOf_length (n : Nat) (f : Nat → Nat → Bool) (a b : Nat) : (stOf n f a b).length = n := by simp [stOf]
theorem rowsOf_length (n : Nat) (f : Nat → Nat → Bool) : (rowsOf n f).length = n := by simp [rowsOf]
theorem stOf_zero (n : Nat) (f : Nat → Nat → Bool) : stOf n f 0 0 = List.replicate n 0 := by
  rw [List.eq_replicate_iff]
  refine ⟨stOf_length _ _ _ _, fun x hx => ?_⟩
  simp only [stOf, List.mem_map] at hx
  obtain ⟨i, _, rfl⟩ := hx
  simp [ofB]
theorem stOf_next (n : Nat) (f : Nat → Nat → Bool) (a : Nat) : stOf n f a n = stOf n f (a + 1) 0 := by
  refine List.map_congr_left fun i _ => ?_
  by_cases h1 : i < a
  · rw [if_pos h1, if_pos (by omega)]
  · by_cases h2 : i = a
    · subst h2; rw [if_neg (by omega), if_pos rfl, if_pos (by omega)]
    · rw [if_neg h1, if_neg h2, if_neg (by omega)]; simp [ofB]
theorem stOf_end (n : Nat) (f : Nat → Nat → Bool) : stOf n f n 0 = rowsOf n f := by
  refine List.map_congr_left fun i hi => ?_
  rw [if_pos (by rwa [List.mem_range] at hi)]
theorem stOf_get (n : Nat) (f : Nat → Nat → Bool) (a b : Nat) (ha : a < (stOf n f a b).length) : (stOf n f a b)[a] = ofB b (hb f a) := by simp [stOf]
theorem stOf_skip (n : Nat) (f : Nat → Nat → Bool) (a b : Nat) (h : hb f a b = false) : stOf n f a (b + 1) = stOf n f a b := by
  refine List.map_congr_left fun i _ => ?_
  by_cases h2 : i = a
  · subst h2; simp [ofB, h]
  · simp [h2]
theorem stOf_set (n : Nat) (f : Nat → Nat → Bool) (a b : Nat) : (stOf n f a b).set a (ofB (b + 1) (hb f a)) = stOf n f a (b + 1) := by
  apply List.ext_getElem
  · simp [stOf_length]
  · intro i h1 h2
    rw [List.getElem_set]
    by_cases e : a = i
    · subst e; rw [if_pos rfl]; simp [stOf]
    · rw [if_neg e]
      have e' : ¬ i = a := fun h => e h.symm
      simp [stOf, e']
theorem ints_casts_set (W : List Nat) (a y : Nat) : (ints (casts W)).set a (.int .i64 (y : Nat)) = ints (casts (W.set a y)) := by
  unfold ints casts
  rw [List.map_set, List.map_set]

theorem Only.frozen {w w' : World} {lo hi : Nat} (h : Only lo hi w w') {p : Addr} (hp : p.block < w.heap.size) (hr : p.block < lo ∨ hi ≤ p.block) : w'.frozen? p = w.frozen? p :=
  World.frozen?_of_block (w := w) (h.block p.block hp hr)
theorem casts_zeros (n : Nat) : casts (List.replicate n 0) = List.replicate n 0 := by simp [casts]
/-- The function value says f of two different players, in every world in which all that lay lies unturned. -/
def PredTwo (g : Nat) (lb : Array Value) (f : Nat → Nat → Bool) (n : Nat) (w : World) : Prop :=
  ∀ (W : World) (a b : Nat), Below w.heap.size w W → a < n → b < n → a ≠ b → Calls Tryd.prog g (#[.int .i64 (a : Int), .int .i64 (b : Int)] ++ lb) W fun e W' => e = .returned (.bool (f a b)) ∧ Below W.heap.size W W'

end Go.Proofs.YtaocjjocncoahaaDoor
