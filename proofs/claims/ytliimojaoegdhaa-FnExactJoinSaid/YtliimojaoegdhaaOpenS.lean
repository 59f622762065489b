/- A law's argument of strings opened: what the walks ask of it. -/
import Derived.Test.YtliimojaoegdhaaStrs
import Derived.Lib.SmallJoins
import Derived.Deep.Strs
namespace Go.Proofs.Ytliimojaoegdhaa
open Go.ChangeShapes Go.WideShapes Go.ChangeAt Go.RowKit Go.Joins
section
variable {H : Type} {enc : TypeId × Value → H} {W : World}
theorem cells_str : Try.prog.cellsOf 9 = 1 := by kernel_rfl
/-- A slice of strings that came in: its cells lie below the heap's size. -/
theorem strs_in {a : Option Addr} {n c : Nat} {x : DataW H × List MemPlace} {fuel : Nat} (hf : DataW.trod enc Try.prog W 0 (fun _ => true) true fuel 24 [.slice a n c] = some x) :
    ∃ zs : List ByteArray, n = zs.length ∧ zs.length ≤ c ∧ c ≤ maxLen ∧ Row W W.heap.size a (strs zs) ∧ ∀ z ∈ zs, z.size ≤ maxLen := by
  rcases Go.Deep.open_strs Try.underlying24 Try.underlying9 cells_str hf with ⟨hc, hx⟩ | ⟨ad, len, cap, m, Sx, hc, _, hl, hm, hmm, hx, hcell⟩
  · simp only [List.cons.injEq, and_true, Value.slice.injEq] at hc
    obtain ⟨rfl, rfl, rfl⟩ := hc
    exact ⟨[], by simp, by simp, by simp, Row.nil _ _ _, by simp⟩
  · simp only [List.cons.injEq, and_true, Value.slice.injEq] at hc
    obtain ⟨rfl, rfl, rfl⟩ := hc
    simp only [if_true] at hmm
    subst hmm
    have hlen : ((List.range n).map Sx).length = n := by simp
    refine ⟨(List.range n).map Sx, hlen.symm, by rw [hlen]; exact hl, hm, fun hn => ?_, fun z hz => ?_⟩
    · rw [strs_length, hlen] at hn
      obtain ⟨b, off, sp⟩ := ad
      have h0 := (hcell 0 (by omega)).1
      have hsp : sp = none := by simpa [Addr.add] using World.cell?_spot h0
      subst hsp
      have e : ∀ i, (⟨b, off, none⟩ : Addr).add i = ⟨b, off + i, none⟩ := fun i => by unfold Addr.add; split <;> simp_all
      refine ⟨b, off, rfl, ?_, fun i u hu => ?_⟩
      · rw [e] at h0
        exact World.block_lt_of_cell? W _ h0
      · have hi : i < n := by
          have := (List.getElem?_eq_some_iff.1 hu).1
          rwa [strs_length, hlen] at this
        have hci := (hcell i (by omega)).1
        rw [e] at hci
        rw [hci, ← hu]
        simp [strs, hi]
    · obtain ⟨i, hi, rfl⟩ := List.mem_map.1 hz
      exact (hcell i (by have := List.mem_range.1 hi; omega)).2
end
end Go.Proofs.Ytliimojaoegdhaa
