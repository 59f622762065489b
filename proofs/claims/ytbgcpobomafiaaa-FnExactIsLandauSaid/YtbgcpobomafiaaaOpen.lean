/- A law's arguments opened: slices of int, tours: what the walks ask of them. -/
import Derived.Test.YtbgcpobomafiaaaMem
import Derived.Test.YtbgcpobomafiaaaRows
import Derived.Lib.SmallJoins
namespace Go.Proofs.Ytbgcpobomafiaaa
open Go.ChangeShapes Go.WideShapes Go.ChangeAt Go.RowKit Go.Joins

section
variable {H : Type} {enc : TypeId × Value → H} {W : World}

theorem cells_int : Try.prog.cellsOf 3 = 1 := by kernel_rfl

/-- A slice of int that came in, as data: its cells lie below the heap's size. -/
theorem ints_in {cs : List Value} {x : DataW H × List MemPlace} {fuel : Nat} {a : Option Addr} {n c : Nat} (hcs : cs = [.slice a n c])
    (hf : DataW.trod enc Try.prog W 0 (fun _ => true) true fuel 24 cs = some x) :
    ∃ zs : List Int, n = zs.length ∧ zs.length ≤ c ∧ c ≤ maxLen ∧ Row W W.heap.size a (ints zs) ∧ ∀ z ∈ zs, (Lit.int .i64 z).wf = true := by
  rcases open_ints Try.underlying24 Try.underlying3 cells_int hf with ⟨hc, hx⟩ | ⟨ad, len, cap, zs, hc, _, hl, hm, hz, hx, hcell, hwz⟩
  · rw [hcs] at hc
    simp only [List.cons.injEq, Value.slice.injEq, and_true] at hc
    obtain ⟨rfl, rfl, rfl⟩ := hc
    exact ⟨[], rfl, by simp, by simp, Row.nil _ _ _, by simp⟩
  · rw [hcs] at hc
    simp only [List.cons.injEq, Value.slice.injEq, and_true] at hc
    obtain ⟨rfl, rfl, rfl⟩ := hc
    simp only [if_true] at hz
    have hlen : (zs.take n).length = n := by rw [List.length_take]; omega
    refine ⟨zs.take n, hlen.symm, by omega, hm, fun hn => ?_, fun z hz' => hwz z (List.mem_of_mem_take hz')⟩
    rw [ints_length, hlen] at hn
    have h0 := hcell 0 (by omega)
    obtain ⟨b, off, rfl, hc⟩ := ints_at hcell (by omega)
    refine ⟨b, off, rfl, ?_, fun i u hu => ?_⟩
    · exact World.block_lt_of_cell? W _ (hc 0 (by omega))
    · have hi : i < n := by
        have := (List.getElem?_eq_some_iff.1 hu).1
        rwa [ints_length, hlen] at this
      rw [hc i (by omega), ← hu]
      have : zs[i]? = some zs[i] := List.getElem?_eq_getElem (by omega)
      simp [ints, hi, this]
end
end Go.Proofs.Ytbgcpobomafiaaa
