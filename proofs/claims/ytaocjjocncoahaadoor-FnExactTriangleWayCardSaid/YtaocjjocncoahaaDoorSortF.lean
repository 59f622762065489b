/- Sorting by a comparison (at most twelve elements): insertion sort, stableCmpFunc, SortStableFunc, walked. -/
import Derived.Test.YtaocjjocncoahaaDoorTourOf
import Derived.Test.YtaocjjocncoahaaDoorIsT
import Derived.RegionTactic
import Derived.Deep.RegionHeld3
namespace Go.Proofs.YtaocjjocncoahaaDoor
open Go.RowKit

theorem set_getD (L : List Nat) (j a p : Nat) (hj : j < L.length) : (L.set j a).getD p 0 = if p = j then a else L.getD p 0 := by
  by_cases e : p = j
  · subst e
    rw [if_pos rfl, getD_lt _ _ _ (by simpa using hj)]
    simp
  · rw [if_neg e]
    simp only [List.getD]
    rw [List.getElem?_set_ne (fun h => e h.symm)]
def swapL (L : List Nat) (m : Nat) : List Nat := (L.set (m + 1) (L.getD m 0)).set m (L.getD (m + 1) 0)
theorem swapL_length (L : List Nat) (m : Nat) : (swapL L m).length = L.length := by simp [swapL]
theorem swapL_getD (L : List Nat) (m p : Nat) (h : m + 1 < L.length) : (swapL L m).getD p 0 = if p = m then L.getD (m + 1) 0 else if p = m + 1 then L.getD m 0 else L.getD p 0 := by
  unfold swapL
  rw [set_getD _ _ _ _ (by simp; omega)]
  split
  · rfl
  · rw [set_getD _ _ _ _ h]
theorem swapL_perm (L : List Nat) (m : Nat) (h : m + 1 < L.length) : (swapL L m).Perm L := by
  unfold swapL
  rw [getD_lt _ _ _ h, getD_lt _ _ _ (show m < L.length by omega)]
  exact List.set_set_perm h (by omega)
def AscTo (κ : Nat → Int) (L : List Nat) (i : Nat) : Prop := ∀ p q, p < q → q < i → κ (L.getD p 0) ≤ κ (L.getD q 0)
structure Ins (κ : Nat → Int) (i j : Nat) (L : List Nat) : Prop where
  jle : j ≤ i
  ilt : i < L.length
  asc : ∀ p q, p < q → q ≤ i → p ≠ j → q ≠ j → κ (L.getD p 0) ≤ κ (L.getD q 0)
  up : ∀ q, j < q → q ≤ i → κ (L.getD j 0) ≤ κ (L.getD q 0)
theorem Ins.start {κ : Nat → Int} {L : List Nat} {i : Nat} (h : AscTo κ L i) (hi : i < L.length) : Ins κ i i L :=
  ⟨Nat.le_refl _, hi, fun p q h1 h2 h3 h4 => h p q h1 (by omega), fun q h1 h2 => by omega⟩
theorem Ins.stop {κ : Nat → Int} {L : List Nat} {i j : Nat} (h : Ins κ i j L) (hs : j = 0 ∨ κ (L.getD (j - 1) 0) ≤ κ (L.getD j 0)) : AscTo κ L (i + 1) := fun p q h1 h2 => by
  by_cases ep : p = j
  · subst ep; exact h.up q h1 (by omega)
  · by_cases eq : q = j
    · subst eq
      rcases hs with hs | hs
      · omega
      · by_cases e : p = q - 1
        · subst e; exact hs
        · exact Int.le_trans (h.asc p (q - 1) (by omega) (by omega) ep (by omega)) hs
    · exact h.asc p q h1 (by omega) ep eq
theorem Ins.swap {κ : Nat → Int} {L : List Nat} {i m : Nat} (h : Ins κ i (m + 1) L) (hs : κ (L.getD (m + 1) 0) < κ (L.getD m 0)) : Ins κ i m (swapL L m) := by
  have hj := h.jle
  have hi := h.ilt
  have hm : m + 1 < L.length := by omega
  refine ⟨by omega, by rw [swapL_length]; exact hi, fun p q h1 h2 h3 h4 => ?_, fun q h1 h2 => ?_⟩
  · rw [swapL_getD _ _ _ hm, swapL_getD _ _ _ hm, if_neg h3, if_neg h4]
    by_cases ep : p = m + 1
    · rw [if_pos ep, if_neg (by omega)]
      exact h.asc m q (by omega) h2 (by omega) (by omega)
    · rw [if_neg ep]
      by_cases eq : q = m + 1
      · rw [if_pos eq]
        exact h.asc p m (by omega) (by omega) ep (by omega)
      · rw [if_neg eq]
        exact h.asc p q h1 h2 ep eq
  · rw [swapL_getD _ _ _ hm, swapL_getD _ _ _ hm, if_pos rfl, if_neg (show ¬ q = m by omega)]
    by_cases eq : q = m + 1
    · rw [if_pos eq]; omega
    · rw [if_neg eq]
      exact h.up q (by omega) h2
/-- The comparison's word: below nothing where the key is smaller; nothing that lay below m is turned. -/
def PredCmp (g : Nat) (lb : Array Value) (f : Nat → Nat → Int) (m n : Nat) (w : World) : Prop :=
  ∀ (W : World) (x y : Nat), Below m w W → x < n → y < n → Calls Tryd.prog g (#[.int .i64 (x : Int), .int .i64 (y : Int)] ++ lb) W fun e w' => e = .returned (.int .i64 (f x y)) ∧ Below W.heap.size W w'
theorem sf_next {wr w' wq : World} {g a b : Nat} {u v : Value} (h : Below wr.heap.size wr w' ∧ w'.cell? ⟨g, a, none⟩ = some u ∧ w'.cell? ⟨g, b, none⟩ = some v) (hq : Below w'.heap.size w' wq) :
    Below wr.heap.size wr wq ∧ wq.cell? ⟨g, a, none⟩ = some u ∧ wq.cell? ⟨g, b, none⟩ = some v := by
  obtain ⟨h1, h2, h3⟩ := h
  have l1 := World.block_lt_of_cell? _ _ h2
  exact ⟨below_trans h1 hq, (hq.cell (p := ⟨g, a, none⟩) l1).trans h2, (hq.cell (p := ⟨g, b, none⟩) l1).trans h3⟩
theorem perm_lt {L os : List Nat} {n : Nat} (h : L.Perm os) (hos : ∀ x ∈ os, x < n) {k : Nat} (hk : k < L.length) : L[k] < n := hos _ (h.mem_iff.1 (List.getElem_mem hk))
end Go.Proofs.YtaocjjocncoahaaDoor
