/- Landau's condition lives on when the least score is taken out (by computation over all sequences of at most 8). -/
import Derived.Test.YtaocjjocncoahaaLandau
import Derived.Test.YtaocjjocncoahaaSortL
namespace Go.Proofs.Ytaocjjocncoahaa
open Go.RowKit

/-! ### Landau's condition lives on -/
def ascs : Nat → Nat → List (List Int)
  | 0, _ => [[]]
  | m + 1, lo => ((List.range 8).filter fun x => decide (lo ≤ x)).flatMap fun (x : Nat) => (ascs m x).map fun q => (x : Int) :: q
def nxtQ (a : Int) (t : List Int) : List Int := t.take a.toNat ++ (t.drop a.toNat).map (· - 1)
def lanNext (q : List Int) : Bool := !(slk q q.length == 0) || !lanS q || match q with
  | [] => true
  | a :: t => decide (0 ≤ a) && decide (a.toNat ≤ t.length) && (t.isEmpty || lanS (sortL (nxtQ a t)))
theorem lan_all : ((List.range 9).all fun m => (ascs m 0).all lanNext) = true := by decide +kernel
theorem ascs_mem : ∀ (q : List Int) (lo : Nat), Asc q → (∀ z ∈ q, (lo : Int) ≤ z ∧ z ≤ 7) → q ∈ ascs q.length lo
  | [], _, _, _ => by simp [ascs]
  | z :: q, lo, ha, hb => by
    have h1 := hb z (by simp)
    have h2 := List.pairwise_cons.1 ha
    obtain ⟨x, rfl⟩ := Int.eq_ofNat_of_zero_le (show 0 ≤ z by omega)
    have ih := ascs_mem q x h2.2 (fun y hy => ⟨h2.1 y hy, (hb y (by simp [hy])).2⟩)
    rw [List.length_cons, ascs, List.mem_flatMap]
    exact ⟨x, by simp; omega, List.mem_map.2 ⟨q, ih, rfl⟩⟩
theorem lan_next (a : Int) (t : List Int) (h : lanS (a :: t) = true) : 0 ≤ a ∧ a.toNat ≤ t.length ∧ (t = [] ∨ lanS (sortL (nxtQ a t)) = true) := by
  have h0 := h
  unfold lanS at h0
  simp only [Bool.and_eq_true, decide_eq_true_eq] at h0
  obtain ⟨⟨⟨h1, h8⟩, hall⟩, hslk⟩ := h0
  have hat := fun i (hi : i < (a :: t).length) => (lanAt_iff (a :: t) i hi).1 (List.all_eq_true.1 hall i (List.mem_range.2 hi))
  have hasc : Asc (a :: t) := by
    have hs : ∀ d i, i + d < (a :: t).length → (a :: t).getD i 0 ≤ (a :: t).getD (i + d) 0 := by
      intro d
      induction d with
      | zero => intro i _; exact Int.le_refl _
      | succ d ih =>
        intro i hi
        have e1 := ih i (by omega)
        have e2 := (hat (i + d + 1) (by omega)).2.1
        rcases e2 with e2 | e2
        · omega
        · rw [Nat.add_sub_cancel] at e2
          rw [show i + (d + 1) = i + d + 1 by omega, getD_lt _ _ _ (show i + d + 1 < _ by omega)]
          omega
    rw [Asc, List.pairwise_iff_getElem]
    intro i j hi hj hij
    have := hs (j - i) i (by omega)
    rw [show i + (j - i) = j by omega, getD_lt _ _ _ hi, getD_lt _ _ _ hj] at this
    exact this
  have hm := ascs_mem (a :: t) 0 hasc (fun z hz => by
    obtain ⟨i, hi, rfl⟩ := List.mem_iff_getElem.1 hz
    have := (hat i hi).1
    constructor <;> omega)
  have hc := List.all_eq_true.1 (List.all_eq_true.1 lan_all (a :: t).length (List.mem_range.2 (by omega))) _ hm
  unfold lanNext at hc
  rw [h, hslk] at hc
  simp only [Bool.not_true, Bool.false_or, Bool.and_eq_true, decide_eq_true_eq, Bool.or_eq_true, List.isEmpty_iff] at hc
  exact ⟨hc.1.1, hc.1.2, hc.2⟩
end Go.Proofs.Ytaocjjocncoahaa
