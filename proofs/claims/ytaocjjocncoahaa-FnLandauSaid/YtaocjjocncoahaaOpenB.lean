/- A law's argument of bytes opened: what the walks ask of it. -/
import Derived.Test.YtaocjjocncoahaaCur
import Derived.Lib.SmallJoins
namespace Go.Proofs.Ytaocjjocncoahaa
open Go.ChangeShapes Go.WideShapes Go.ChangeAt Go.RowKit Go.Joins
section
variable {H : Type} {enc : TypeId × Value → H} {W : World}
theorem cells_u8 : Try.prog.cellsOf 5 = 1 := by kernel_rfl
theorem bytes_in {a : Option Addr} {n c : Nat} {x : DataW H × List MemPlace} {fuel : Nat}
    (hf : DataW.trod enc Try.prog W 0 (fun _ => true) true fuel 35 [.slice a n c] = some x) :
    ∃ zs : List Int, n = zs.length ∧ zs.length ≤ c ∧ c ≤ maxLen ∧ Row W W.heap.size a (u8s zs) ∧ ∀ z ∈ zs, 0 ≤ z ∧ z ≤ 255 := by
  rcases open_ints Try.underlying35 Try.underlying5 cells_u8 hf with ⟨hc, hx⟩ | ⟨ad, len, cap, zs, hc, _, hl, hm, hz, hx, hcell, hwz⟩
  · simp only [List.cons.injEq, and_true, Value.slice.injEq] at hc
    obtain ⟨rfl, rfl, rfl⟩ := hc
    exact ⟨[], by simp, by simp, by simp, Row.nil _ _ _, by simp⟩
  · simp only [List.cons.injEq, and_true, Value.slice.injEq] at hc
    obtain ⟨rfl, rfl, rfl⟩ := hc
    simp only [if_true] at hz
    have hlen : (zs.take n).length = n := by rw [List.length_take]; omega
    refine ⟨zs.take n, hlen.symm, by rw [hlen]; exact hl, hm, fun hn => ?_, fun z hz' => ?_⟩
    · rw [u8s_length, hlen] at hn
      obtain ⟨b, off, sp⟩ := ad
      have h0 := hcell 0 (by omega)
      have hsp : sp = none := by simpa [Addr.add] using World.cell?_spot h0
      subst hsp
      have e : ∀ i, (⟨b, off, none⟩ : Addr).add i = ⟨b, off + i, none⟩ := fun i => by unfold Addr.add; split <;> simp_all
      refine ⟨b, off, rfl, ?_, fun i u hu => ?_⟩
      · rw [e] at h0
        exact World.block_lt_of_cell? W _ h0
      · have hi : i < n := by
          have := (List.getElem?_eq_some_iff.1 hu).1
          rwa [u8s_length, hlen] at this
        have hci := hcell i (by omega)
        rw [e] at hci
        rw [hci, ← hu]
        have : zs[i]? = some zs[i] := List.getElem?_eq_getElem (by omega)
        simp [u8s, hi, this]
    · have h2 : (decide (IntKind.u8.min ≤ z) && decide (z ≤ IntKind.u8.max)) = true := hwz z (List.mem_of_mem_take hz')
      rw [Bool.and_eq_true, decide_eq_true_iff, decide_eq_true_iff] at h2
      exact h2
end
end Go.Proofs.Ytaocjjocncoahaa
