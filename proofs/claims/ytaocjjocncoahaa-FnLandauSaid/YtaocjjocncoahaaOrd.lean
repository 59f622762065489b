/- Orders: isOrder, l02Perm, OrderOk, walked. -/
import Derived.Test.YtaocjjocncoahaaMg4
namespace Go.Proofs.Ytaocjjocncoahaa
open Go.RowKit

/-- Number i of a list lies in the range and has not stood ahead. -/
def permAt (zs : List Int) (i : Nat) : Bool := (decide (0 ≤ zs.getD i 0) && decide (zs.getD i 0 ≤ (zs.length : Int) - 1)) && !((zs.take i).any fun y => zs.getD i 0 == y)
/-- The list holds each number from 0 up to its length once. -/
def orderB (zs : List Int) : Bool := (List.range zs.length).all (permAt zs)
theorem permAt_eq (zs : List Int) (i : Nat) (h : i < zs.length) : permAt zs i = ((decide (0 ≤ zs[i]) && decide (zs[i] ≤ (zs.length : Int) - 1)) && !((zs.take i).any fun y => zs[i] == y)) := by unfold permAt; rw [getD_lt _ _ _ h]
theorem orderB_no (zs : List Int) (k : Nat) (hk : k < zs.length) (h : permAt zs k = false) : orderB zs = false := by
  unfold orderB
  rw [List.all_eq_false]
  exact ⟨k, by rwa [List.mem_range], by simp [h]⟩
theorem orderB_yes (zs : List Int) (h : ∀ j, j < zs.length → permAt zs j = true) : orderB zs = true := by
  unfold orderB
  rw [List.all_eq_true]
  intro j hj
  exact h j (by rwa [List.mem_range] at hj)
theorem Row.take {w : World} {B : Nat} {A : Option Addr} {vs : List Value} (h : Row w B A vs) (k : Nat) : Row w B A (vs.take k) := fun hn => by
  obtain ⟨b, off, e, hb, hc⟩ := h (by rw [List.length_take] at hn; omega)
  refine ⟨b, off, e, hb, fun i u hu => hc i u ?_⟩
  rw [List.getElem?_take] at hu
  split at hu
  · exact hu
  · cases hu
theorem Row.intTake {w : World} {B : Nat} {A : Option Addr} {zs : List Int} (h : Row w B A (ints zs)) (k : Nat) : Row w B A (ints (zs.take k)) := by
  have := h.take k
  unfold ints at *
  rwa [← List.map_take] at this

/-- What both functions OrderOk answer. -/
def rOrderOk (s : Int) (zs : List Int) (os : List Int) : Bool := if okB s zs then decide (os.length = (toW zs).length) && orderB os else false
end Go.Proofs.Ytaocjjocncoahaa
