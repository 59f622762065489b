/- slices.Clone, slices.Sort: lists of any length, with the library's own contract. -/
import Derived.Test.YtaocjjocncoahaaSortO
import Derived.Test.YtaocjjocncoahaaShelfR
import Derived.Sort.OwnSortedInts
namespace Go.Proofs.Ytaocjjocncoahaa
open Go.RowKit Go.Sort

theorem merge_is (zs : List Int) : zs.mergeSort (fun x y => decide (x ≤ y)) = sortL zs := by
  refine sorted_is ?_ (List.mergeSort_perm _ _)
  have h := List.pairwise_mergeSort (le := fun x y : Int => decide (x ≤ y)) (fun a b c h1 h2 => by simp only [decide_eq_true_eq] at *; omega) (fun a b => by simp only [Bool.or_eq_true, decide_eq_true_eq]; omega) zs
  exact h.imp fun h => by simpa using h
theorem sortAll_any (lo hi : Nat) (G : Option Addr) (d : Nat) (zs : List Int) (w : World) (h : Own w lo hi 3 G d (ints zs)) (hhi : hi ≤ w.heap.size) (hl : zs.length ≤ 1099511627776) :
    Calls Try.prog 41 #[.slice G zs.length d] w fun e w' => e = .returned (.tuple #[]) ∧ Own w' lo hi 3 G d (ints (sortL zs)) ∧ Only lo hi w w' := by
  rcases h with ⟨rfl, h2, rfl⟩ | ⟨g, cur, rfl, ha, hb, hh, h1, h2, h3, h4⟩
  · obtain rfl : zs = [] := by cases zs <;> simp_all [ints]
    exact (sort_nil w).mono fun e w' ⟨he, hbl⟩ => ⟨he, .inl ⟨rfl, rfl, rfl⟩, Only.of_below hbl⟩
  · rw [ints_length] at h1 h4
    refine (Try.slices_Sort_int g 0 d zs w (holds_of_blockI hh h4) (by omega) (by omega)).mono fun e w' ⟨he, n, os, hw⟩ => ?_
    rw [merge_is] at hw
    refine ⟨he, .inr ⟨g, putCells (Value.int .i64) 0 (sortL zs).toArray cur, rfl, ha, hb, by rw [hw]; exact heap_sortedI _ hh, by rw [ints_length, sortL_length]; exact h1, h2, by simp [putCells, h3], ?_⟩, ?_⟩
    · rw [ints_length]
      exact take_putCellsI cur (sortL zs) (by rw [sortL_length]; omega)
    · rw [hw]
      have hg := grownBy_sortedI (w := w) (g := g) (n := n) (os := os) (sortL zs).toArray
      exact ⟨hg.os, hg.tape, hg.output, hg.size, fun k hk hr => hg.block k hk (fun e => by have := Option.some.inj e; omega)⟩
theorem cloneAll_any (A : Option Addr) (c : Nat) (zs : List Int) (w : World) (h : Row w w.heap.size A (ints zs)) (hl : zs.length ≤ 549755813888) :
    Calls Try.prog 40 #[.slice A zs.length c] w (NewInts w 3 zs) := by
  by_cases h0 : 0 < zs.length
  · exact clone_any A c zs w h h0 hl
  · obtain rfl : zs = [] := List.eq_nil_of_length_eq_zero (by omega)
    cases A with
    | none => exact (Try.slices_Clone_int_nil 0 c w).mono fun e w' ⟨he, hw⟩ => ⟨none, 0, he, .inl ⟨rfl, rfl, rfl⟩, by rw [hw]; exact Below.refl _ _⟩
    | some a =>
      exact (Try.slices_Clone_int_zero a c w).mono fun e w' ⟨v, he, ho, _, hb⟩ => by
        obtain ⟨A', c', rfl, _, ho'⟩ := own_of_ownsRow ho
        exact ⟨A', c', he, ho', hb⟩
end Go.Proofs.Ytaocjjocncoahaa
