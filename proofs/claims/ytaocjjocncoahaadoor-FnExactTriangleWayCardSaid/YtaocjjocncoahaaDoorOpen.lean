/- A law's arguments opened: slices of int, tours: what the walks ask of them. -/
import Derived.Test.YtaocjjocncoahaaDoorMem
import Derived.Test.YtaocjjocncoahaaDoorRows
import Derived.Lib.SmallJoins
namespace Go.Proofs.YtaocjjocncoahaaDoor
open Go.ChangeShapes Go.WideShapes Go.ChangeAt Go.RowKit Go.Joins

section
variable {H : Type} {enc : TypeId × Value → H} {W : World}

theorem cells_int : Tryd.prog.cellsOf 3 = 1 := by kernel_rfl

/-- A slice of int that came in, as data: its cells lie below the heap's size. -/
theorem ints_of {v : Value} {x : DataW H × List MemPlace} {fuel : Nat} (hf : DataW.trod enc Tryd.prog W 0 (fun _ => true) true fuel 22 [v] = some x) :
    ∃ (a : Option Addr) (c : Nat) (zs : List Int), v = .slice a zs.length c ∧ zs.length ≤ c ∧ c ≤ maxLen ∧ Row W W.heap.size a (ints zs) ∧ ∀ z ∈ zs, (Lit.int .i64 z).wf = true := by
  rcases open_ints Tryd.underlying22 Tryd.underlying3 cells_int hf with ⟨hc, hx⟩ | ⟨ad, len, cap, zs, hc, _, hl, hm, hz, hx, hcell, hwz⟩
  · simp only [List.cons.injEq, and_true] at hc
    exact ⟨none, 0, [], hc, by simp, by simp, Row.nil _ _ _, by simp⟩
  · simp only [List.cons.injEq, and_true] at hc
    simp only [if_true] at hz
    have hlen : (zs.take len).length = len := by rw [List.length_take]; omega
    refine ⟨some ad, cap, zs.take len, by rw [hlen]; exact hc, by omega, hm, fun hn => ?_, fun z hz' => hwz z (List.mem_of_mem_take hz')⟩
    rw [ints_length, hlen] at hn
    have h0 := hcell 0 (by omega)
    obtain ⟨b, off, rfl, hcc⟩ := ints_at hcell (by omega)
    refine ⟨b, off, rfl, ?_, fun i u hu => ?_⟩
    · exact World.block_lt_of_cell? W _ (hcc 0 (by omega))
    · have hi : i < len := by
        have := (List.getElem?_eq_some_iff.1 hu).1
        rwa [ints_length, hlen] at this
      rw [hcc i (by omega), ← hu]
      have : zs[i]? = some zs[i] := List.getElem?_eq_getElem (by omega)
      simp [ints, hi, this]
theorem ints_in {a : Option Addr} {n c : Nat} {x : DataW H × List MemPlace} {fuel : Nat}
    (hf : DataW.trod enc Tryd.prog W 0 (fun _ => true) true fuel 22 [.slice a n c] = some x) :
    ∃ zs : List Int, n = zs.length ∧ zs.length ≤ c ∧ c ≤ maxLen ∧ Row W W.heap.size a (ints zs) ∧ ∀ z ∈ zs, (Lit.int .i64 z).wf = true := by
  obtain ⟨a', c', zs, e, h⟩ := ints_of hf
  simp only [Value.slice.injEq] at e
  obtain ⟨rfl, rfl, rfl⟩ := e
  exact ⟨zs, rfl, h⟩

theorem cells_tour : Tryd.prog.cellsOf 30 = 2 := by kernel_rfl
set_option maxRecDepth 100000 in
/-- A tour that came in. -/
theorem tour_in {r : Reach} {b0 : Nat} {v : Value} {d : DataW H} {p : List MemPlace} (hv : Value.okWide Tryd.prog W r b0 30 v) (h : DataW.Trod enc Tryd.prog W 0 (fun _ => true) true 30 v d p) :
    ∃ (s : Int) (a : Option Addr) (zs : List Int) (c : Nat), v = .agg #[.int .i64 s, .slice a zs.length c] ∧ (Lit.int .i64 s).wf = true ∧ zs.length ≤ 9223372036854775807 ∧ Row W W.heap.size a (ints zs) ∧ ∀ z ∈ zs, (Lit.int .i64 z).wf = true := by
  obtain ⟨c0, c1, y0, y1, m, rfl, _, _, hy0, hy1⟩ := open_agg2 Tryd.underlying30 (by kernel_rfl) cells_tour hv h
  obtain ⟨s, e0, _, ws⟩ := DataW.trod_int Tryd.underlying3 hy0
  obtain ⟨a, c, zs, rfl, hl, hm, hr, hw⟩ := ints_of hy1
  simp only [List.cons.injEq, and_true] at e0
  subst e0
  unfold maxLen at hm
  exact ⟨s, a, zs, c, rfl, ws, by omega, hr, hw⟩
end
end Go.Proofs.YtaocjjocncoahaaDoor
