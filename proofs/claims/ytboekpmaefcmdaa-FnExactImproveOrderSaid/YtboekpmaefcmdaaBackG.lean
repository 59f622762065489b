/- BackGames: l08Back, BackGames, walked. -/
import Derived.Test.YtboekpmaefcmdaaBack
import Derived.Test.YtboekpmaefcmdaaKings
import Derived.Test.YtboekpmaefcmdaaTourOf
namespace Go.Proofs.Ytboekpmaefcmdaa
open Go.RowKit

/-- Everybody's place when k entries of the order have been read. -/
def plK (os : List Int) : Nat → List Nat
  | 0 => List.replicate os.length 0
  | k + 1 => (plK os k).set (atN os k) k
theorem plK_length (os : List Int) (k : Nat) : (plK os k).length = os.length := by
  induction k with
  | zero => simp [plK]
  | succ k ih => simp [plK, ih]
theorem atN_inj (os : List Int) (h : orderB os = true) (i j : Nat) (hi : i < os.length) (hj : j < os.length) (e : atN os i = atN os j) : i = j := by
  have h1 := posI_at os h i hi
  have h2 := posI_at os h j hj
  rw [e] at h1
  omega
theorem atN_lt (os : List Int) (h : orderB os = true) (i : Nat) (hi : i < os.length) : atN os i < os.length := by
  have := (orderB_facts os h).1 i hi
  unfold atN
  rw [getD_lt _ _ _ hi]
  omega
theorem plK_at (os : List Int) (h : orderB os = true) (k : Nat) (hk : k ≤ os.length) (i : Nat) (hi : i < k) : (plK os k).getD (atN os i) 0 = i := by
  induction k with
  | zero => omega
  | succ k ih =>
    have hlt := atN_lt os h i (by omega)
    rw [plK, List.getD, List.getElem?_set]
    by_cases e : atN os k = atN os i
    · have := atN_inj os h k i (by omega) (by omega) e
      subst this
      rw [if_pos rfl, if_pos (by rw [plK_length]; exact hlt)]
      rfl
    · rw [if_neg e]
      have hne : i ≠ k := fun e2 => e (by rw [e2])
      exact ih (by omega) (by omega)
theorem at_all (os : List Int) (h : orderB os = true) (a : Nat) (ha : a < os.length) : ∃ i, i < os.length ∧ atN os i = a := by
  have hp := order_perm os h
  have hm : a ∈ natL os := hp.mem_iff.2 (by rwa [List.mem_range])
  unfold natL at hm
  obtain ⟨z, hz, e⟩ := List.mem_map.1 hm
  obtain ⟨i, hi, rfl⟩ := List.mem_iff_getElem.1 hz
  refine ⟨i, hi, ?_⟩
  unfold atN
  rw [getD_lt _ _ _ hi]
  exact e
/-- At the end: the place that slices.Index finds. -/
theorem plK_pos (os : List Int) (h : orderB os = true) (a : Nat) (ha : a < os.length) : (((plK os os.length).getD a 0 : Nat) : Int) = posI os a := by
  obtain ⟨i, hi, rfl⟩ := at_all os h a ha
  rw [plK_at os h os.length (Nat.le_refl _) i hi, posI_at os h i hi]
def rBackGames (s : Int) (zs : List Int) (os : List Int) : List (List Int) := if rOrderOk s zs os then backRows (toW zs) os else []
theorem rBackGames_len (s : Int) (zs os : List Int) : (rBackGames s zs os).length ≤ 1000 ∧ (∀ r ∈ rBackGames s zs os, r.length ≤ 1099511627776) ∧ total (rBackGames s zs os) ≤ 1000000 := by
  unfold rBackGames
  split
  · rename_i h
    obtain ⟨W, rfl, rfl, hT⟩ := ok_tour (orderOk_facts h).1
    rw [toW_casts]
    unfold backRows
    have h1 := prRows_le W.length (bkN W os) hT.h8
    have h2 := total_le3 (prRows W.length (bkN W os)) 2 (prRows_len W.length (bkN W os))
    exact ⟨by omega, fun r hr => Nat.le_trans (prRows_len W.length (bkN W os) r hr) (by omega), by omega⟩
  · simp [total]

theorem ints_setB (W : List Nat) (a y : Nat) : (ints (casts W)).set a (.int .i64 (y : Nat)) = ints (casts (W.set a y)) := by
  unfold ints casts
  rw [List.map_set, List.map_set]
theorem bg_next {w1 w' wq : World} {g g2 a b : Nat} {v0 v1 x0 x1 : Value} (h : Below w1.heap.size w1 w' ∧ w'.cell? ⟨g, 0, none⟩ = some v0 ∧ w'.cell? ⟨g, 1, none⟩ = some v1 ∧ w'.cell? ⟨g2, a, none⟩ = some x0 ∧ w'.cell? ⟨g2, b, none⟩ = some x1) (hq : Below w'.heap.size w' wq) :
    Below w1.heap.size w1 wq ∧ wq.cell? ⟨g, 0, none⟩ = some v0 ∧ wq.cell? ⟨g, 1, none⟩ = some v1 ∧ wq.cell? ⟨g2, a, none⟩ = some x0 ∧ wq.cell? ⟨g2, b, none⟩ = some x1 := by
  obtain ⟨h0, h1, h2, h3, h4⟩ := h
  have l1 := World.block_lt_of_cell? _ _ h1
  have l3 := World.block_lt_of_cell? _ _ h3
  exact ⟨below_trans h0 hq, (hq.cell (p := ⟨g, 0, none⟩) l1).trans h1, (hq.cell (p := ⟨g, 1, none⟩) l1).trans h2, (hq.cell (p := ⟨g2, a, none⟩) l3).trans h3, (hq.cell (p := ⟨g2, b, none⟩) l3).trans h4⟩
/-- Everybody's place. -/
def ptP (os : List Int) (a : Nat) : Nat := (plK os os.length).getD a 0

end Go.Proofs.Ytboekpmaefcmdaa
